/- The texts of this seat, one behind another (part 4 of 9): the frame (an abstract machine), the contracts of functions, the laws. -/
import Derived.Test.YtnnkcbkenofhmaaZ2
import Derived.Test.YtnnkcbkenofhmaaZ3
section
/- Quoted runes: what they are read as, in plain terms; contracts of both Quote, by walks. -/
set_option linter.unusedSimpArgs false
set_option linter.unusedVariables false
set_option maxHeartbeats 4000000
set_option maxRecDepth 20000
namespace Go.Proofs.Ytnnkcbkenofhmaa.Am
open Go Go.RowKit Go.Proofs.Try
def spe (x : Int) : Prop := x = 92 ∨ x = 46 ∨ x = 91 ∨ x = 42 ∨ x = 94 ∨ x = 36
instance (x : Int) : Decidable (spe x) := by unfold spe; infer_instance
def quo : List Int → List Int
  | [] => []
  | x :: l => (if spe x then [92, x] else [x]) ++ quo l
theorem quo_app : ∀ (l : List Int) (x : Int), quo (l ++ [x]) = quo l ++ (if spe x then [92, x] else [x])
  | [], x => by simp [quo]
  | y :: l, x => by simp only [List.cons_append, quo, quo_app l x, List.append_assoc]
theorem quo_len : ∀ l : List Int, (quo l).length ≤ 2 * l.length
  | [] => Nat.le_refl _
  | x :: l => by
    have := quo_len l
    simp only [quo, List.length_append, List.length_cons]
    split <;> simp <;> omega
theorem quo_mem : ∀ {l : List Int} {y : Int}, y ∈ quo l → y = 92 ∨ y ∈ l
  | [], y, h => by simp [quo] at h
  | x :: l, y, h => by
    simp only [quo, List.mem_append] at h
    rcases h with h | h
    · split at h
      · simp at h
        rcases h with rfl | rfl
        · exact .inl rfl
        · exact .inr (by simp)
      · simp at h; subst h; exact .inr (by simp)
    · rcases quo_mem h with h | h
      · exact .inl h
      · exact .inr (by simp [h])
/-- Nothing is repeated behind a quoted rune. -/
theorem quo_rep {l : List Int} {p : Pat} : repM p (quo l) = .ok none := by
  rcases l with _ | ⟨x, l⟩
  · rfl
  · simp only [quo]
    by_cases c : spe x
    · rw [if_pos c]
      have hx : x ≠ 123 := by rintro rfl; revert c; decide
      simp [repM, peekM, hx]
    · rw [if_neg c]
      have h1 : x ≠ 92 := fun e => c (.inl e)
      have h2 : x ≠ 42 := fun e => c (.inr (.inr (.inr (.inl e))))
      simp [repM, peek_one h1, h2]
theorem quo_pie {grp : List Int → Int → PRes} : ∀ (l : List Int) (n : Nat) (acc : List Pat) (g : Int), (quo l).length < n → pieM grp n acc (quo l) g = .ok (pCat (acc ++ l.map pR), [], g)
  | [], n, acc, g, hn => by
    obtain ⟨n, rfl⟩ : ∃ q, n = q + 1 := ⟨n - 1, by omega⟩
    rw [show quo [] = [] from rfl, pieM_done rfl]; simp
  | x :: l, n, acc, g, hn => by
    obtain ⟨n, rfl⟩ : ∃ q, n = q + 1 := ⟨n - 1, by omega⟩
    have ih := quo_pie (grp := grp) l n (acc ++ [pR x]) g
    have hk : (pR x).kind ≠ 4 := by show (1 : Int) ≠ 4; decide
    have hre : repsM ((quo l).length + 1) (pR x) (quo l) = .ok (pR x, quo l) := repsM_none hk quo_rep
    have hl : (acc ++ [pR x]) ++ l.map pR = acc ++ (x :: l).map pR := by simp
    simp only [quo] at hn ⊢
    by_cases c : spe x
    · rw [if_pos c] at hn ⊢
      have he : endedM ([92, x] ++ quo l) = false := by
        have h1 : x ≠ 124 := by rintro rfl; revert c; decide
        have h2 : x ≠ 41 := by rintro rfl; revert c; decide
        simp [endedM, h1, h2]
      have ha : atomM grp acc.isEmpty ([92, x] ++ quo l) g = .ok (pR x, quo l, g) := by
        rcases c with rfl | rfl | rfl | rfl | rfl | rfl <;> rfl
      rw [pieM_step he ha hre, ih (by simp at hn; omega), hl]
    · rw [if_neg c] at hn ⊢
      have h1 : x ≠ 92 := fun e => c (.inl e)
      have h2 : x ≠ 46 := fun e => c (.inr (.inl e))
      have h3 : x ≠ 91 := fun e => c (.inr (.inr (.inl e)))
      have h4 : x ≠ 94 := fun e => c (.inr (.inr (.inr (.inr (.inl e)))))
      have h5 : x ≠ 36 := fun e => c (.inr (.inr (.inr (.inr (.inr e)))))
      have he : endedM ([x] ++ quo l) = false := by
        generalize quo l = q
        rcases q with _ | ⟨y, q⟩
        · rfl
        · simp [endedM, h1]
      have ha : atomM grp acc.isEmpty ([x] ++ quo l) g = .ok (pR x, quo l, g) := by
        simp [atomM, peek_one h1, h1, h2, h3, h4, h5]
      rw [pieM_step he ha hre, ih (by simp at hn; omega), hl]
theorem sizes_leaf {k lo hi : Int} (hk : k ≠ 10) : ∀ (l : List Int) (n : Int), 1 ≤ n → n + l.length ≤ 401 → sizesM k lo hi n (l.map pR) = n + l.length
  | [], n, _, _ => by simp [sizesM]
  | x :: l, n, h1, h2 => by
    simp only [List.map_cons, sizesM, if_neg hk]
    have hs : sizeM (pR x) = 1 := rfl
    rw [hs]
    simp only [List.length_cons] at h2 ⊢
    have M := kmin_spec (n + 1) 401
    rw [show kmin (n + 1) 401 = n + 1 by omega, sizes_leaf hk l (n + 1) (by omega) (by omega)]
    omega
theorem quo_parse {l : List Int} (hl : l.length ≤ 300) : parseR (quo l) = (pCat (l.map pR), 0) := by
  have h := quo_pie (grp := grpM 16) l ((quo l).length + 1) [] 0 (by omega)
  rw [List.nil_append] at h
  refine parseR_ok (altM_one h rfl) ?_
  rcases l with _ | ⟨x, _ | ⟨y, l⟩⟩
  · show (1 : Int) ≤ 400; omega
  · show (1 : Int) ≤ 400; omega
  · have := sizes_leaf (k := 8) (lo := 0) (hi := 0) (by decide) (x :: y :: l) 1 (by omega) (by simp only [List.length_cons] at hl ⊢; omega)
    have e : sizeM (pCat ((x :: y :: l).map pR)) = sizesM 8 0 0 1 ((x :: y :: l).map pR) := rfl
    rw [e, this]
    simp only [List.length_cons] at hl ⊢
    omega
theorem enc_all : ((List.range 128).all fun n => (Utf8.encode (n : Int)).data.toList == [n.toUInt8]) = true := by kernel_rfl
theorem has_all : ((List.range 128).all fun n => decide (0 ≤ Lib.indexByte [92, 46, 91, 42, 94, 36] n.toUInt8) == decide (spe (n : Int))) = true := by kernel_rfl
theorem enc_one {n : Nat} (h : n < 128) : Utf8.encode (n : Int) = ⟨#[n.toUInt8]⟩ := by
  have := List.all_eq_true.1 enc_all n (by simp; exact h)
  have e : (Utf8.encode (n : Int)).data.toList = [n.toUInt8] := by simpa using this
  have e2 : (Utf8.encode (n : Int)).data = #[n.toUInt8] := by apply Array.ext'; rw [e]
  cases hx : Utf8.encode (n : Int) with
  | mk d => rw [hx] at e2; exact congrArg ByteArray.mk e2
theorem has_one {n : Nat} (h : n < 128) : decide (0 ≤ Lib.indexByte [92, 46, 91, 42, 94, 36] n.toUInt8) = decide (spe (n : Int)) := by
  have := List.all_eq_true.1 has_all n (by simp; exact h)
  simpa using this
theorem cvs {n : Nat} (h : n < 128) : ∀ hh, aconv prog hh 21 9 (.int .i32 (n : Int)) = some (.string ⟨#[n.toUInt8]⟩) := fun hh => by
  simp [aconv, underlying21, underlying9, enc_one h]
theorem quote_ok {h : Heap} {lv : Value} {l : List Int} (S : RdI prog h .i32 lv l) (hl : l.length ≤ 100000000) : ACalls prog 17 #[lv] h (fun y h' => OwI h.size h' y (quo l) ∧ Keeps h h') := by
  refine acalls_of_W' func17 rfl (by kernel_rfl) (by kernel_rfl) (by simp [ntmps17]) ?_
  intro H
  have LN := S.ln (n := (l.length : Int)) rfl
  simp only [wk, wt, wl, ↓reduceIte, Nat.reduceEqDiff, Nat.reduceAdd, Nat.zero_add, not_false_eq_true, not_true_eq_false, LN]
  refine W_loop (fun tm hh => tm 6 = lv ∧ tm 7 = .int .i64 (l.length : Int) ∧ ∃ (i : Nat) (v : Value), tm 8 = .int .i64 (i : Int) ∧ tm 3 = v ∧ i ≤ l.length ∧ OwI h.size hh v (quo (l.take i)) ∧ Keeps h hh) (fun tm _ => (l.length - intOf (tm 8)).toNat)
    ⟨(by first | rfl | (simp only [wk, wt, wl, ↓reduceIte, Nat.reduceEqDiff, Nat.reduceAdd, Nat.zero_add, not_false_eq_true, not_true_eq_false]; done) | (simp only [wk, wt, wl, ↓reduceIte, Nat.reduceEqDiff, Nat.reduceAdd, Nat.zero_add, not_false_eq_true, not_true_eq_false]; rfl)), (by first | rfl | (simp only [wk, wt, wl, ↓reduceIte, Nat.reduceEqDiff, Nat.reduceAdd, Nat.zero_add, not_false_eq_true, not_true_eq_false]; done) | (simp only [wk, wt, wl, ↓reduceIte, Nat.reduceEqDiff, Nat.reduceAdd, Nat.zero_add, not_false_eq_true, not_true_eq_false]; rfl)), 0, nilS, (by first | rfl | (simp only [wk, wt, wl, ↓reduceIte, Nat.reduceEqDiff, Nat.reduceAdd, Nat.zero_add, not_false_eq_true, not_true_eq_false]; done) | (simp only [wk, wt, wl, ↓reduceIte, Nat.reduceEqDiff, Nat.reduceAdd, Nat.zero_add, not_false_eq_true, not_true_eq_false]; rfl)), (by first | rfl | (simp only [wk, wt, wl, ↓reduceIte, Nat.reduceEqDiff, Nat.reduceAdd, Nat.zero_add, not_false_eq_true, not_true_eq_false]; done) | (simp only [wk, wt, wl, ↓reduceIte, Nat.reduceEqDiff, Nat.reduceAdd, Nat.zero_add, not_false_eq_true, not_true_eq_false]; rfl) | (simp only [wk, wt, wl, ↓reduceIte, Nat.reduceEqDiff, Nat.reduceAdd, Nat.zero_add, not_false_eq_true, not_true_eq_false, nilS]; done) | (simp only [wk, wt, wl, ↓reduceIte, Nat.reduceEqDiff, Nat.reduceAdd, Nat.zero_add, not_false_eq_true, not_true_eq_false, nilS]; rfl)), by omega, OwI.nil, Keeps.refl H⟩ ?_
  rintro tm hh ⟨t6, t7, i, v, t8, t3, hi, O, K⟩
  simp only [wk, wt, wl, ↓reduceIte, Nat.reduceEqDiff, Nat.reduceAdd, Nat.zero_add, not_false_eq_true, not_true_eq_false, t6, t7, t8]
  refine condK_dec (fun hd => ?_) (fun hd => ?_)
  · have hi2 : i < l.length := by omega
    obtain ⟨x, hx⟩ : ∃ x, l[i]? = some x := ⟨_, List.getElem?_eq_getElem hi2⟩
    have hdt : quo (l.take (i + 1)) = quo (l.take i) ++ (if spe x then [92, x] else [x]) := by rw [List.take_add_one, hx]; exact quo_app _ _
    have hql := quo_len (l.take i)
    have hti : (l.take i).length ≤ i := by rw [List.length_take]; omega
    have IX := ((S.keeps K).ix hx).1
    have LX := ((S.keeps K).ix hx).2
    have wi : IntKind.i64.wrap ((i : Int) + 1) = ((i + 1 : Nat) : Int) := by rw [IntWalk.i64_in _ (by omega)]; omega
    have nsp : ¬ (0 < x ∧ x < 128) → ¬ spe x := fun a b => by unfold spe at b; omega
    by_cases c1 : 0 < x
    · have d1 := decide_eq_true c1
      by_cases c2 : x < 128
      · have d2 := decide_eq_true c2
        obtain ⟨k, rfl⟩ : ∃ k : Nat, x = (k : Int) := ⟨x.toNat, by omega⟩
        have hk : k < 128 := by omega
        have cv := cvs hk
        have hs := has_one hk
        simp only [wk, wt, wl, ↓reduceIte, Nat.reduceEqDiff, Nat.reduceAdd, Nat.zero_add, not_false_eq_true, not_true_eq_false, t6, t7, t8, t3, IX, LX, d1, d2, cv, call_contains]
        refine contains_ok.use_pure ?_
        have hs' : decide (0 ≤ Lib.indexByte (ByteArray.data ⟨#[92, 46, 91, 42, 94, 36]⟩).toList k.toUInt8) = decide (spe (k : Int)) := hs
        rw [hs']
        by_cases cs : spe (k : Int)
        · have d3 := decide_eq_true cs
          generalize hxk : (k : Int) = x at *
          obtain ⟨v2, h2, e2, O2, K2, _, _⟩ := O.lit K [92] (by simp; omega)
          obtain ⟨v3, h3, e3, O3, K3, _, _⟩ := O2.lit K2 [x] (by simp; omega)
          have e2' : aappend prog (hh.new 21 [.int .i32 92]) 22 22 v (.slice (some ⟨hh.size, 0, none⟩) 1 2) = some (v2, h2) := e2
          have e3' : aappend prog (h2.new 21 [.int .i32 x]) 22 22 v2 (.slice (some ⟨h2.size, 0, none⟩) 1 2) = some (v3, h3) := e3
          have IX2 := ((S.keeps K2).ix hx).1
          have LX2 := ((S.keeps K2).ix hx).2
          rw [if_pos cs] at hdt
          rw [List.append_assoc] at O3
          have O4 : OwI h.size h3 v3 (quo (l.take (i + 1))) := by rw [hdt]; exact O3
          simp only [wk, wt, wl, ↓reduceIte, Nat.reduceEqDiff, Nat.reduceAdd, Nat.zero_add, not_false_eq_true, not_true_eq_false, t6, t7, t8, t3, d3, e2', e3', wi, intOf_int]
          exact ⟨⟨i + 1, v3, rfl, rfl, by omega, O4, K3⟩, by omega⟩
        · have d3 := decide_eq_false cs
          generalize hxk : (k : Int) = x at *
          obtain ⟨v3, h3, e3, O3, K3, _, _⟩ := O.lit K [x] (by simp; omega)
          have e3' : aappend prog (hh.new 21 [.int .i32 x]) 22 22 v (.slice (some ⟨hh.size, 0, none⟩) 1 2) = some (v3, h3) := e3
          rw [if_neg cs] at hdt
          have O4 : OwI h.size h3 v3 (quo (l.take (i + 1))) := by rw [hdt]; exact O3
          simp only [wk, wt, wl, ↓reduceIte, Nat.reduceEqDiff, Nat.reduceAdd, Nat.zero_add, not_false_eq_true, not_true_eq_false, t6, t7, t8, t3, d3, e3', wi, intOf_int]
          exact ⟨⟨i + 1, v3, rfl, rfl, by omega, O4, K3⟩, by omega⟩
      · have d2 := decide_eq_false c2
        have cs := nsp (fun e => c2 e.2)
        obtain ⟨v3, h3, e3, O3, K3, _, _⟩ := O.lit K [x] (by simp; omega)
        have e3' : aappend prog (hh.new 21 [.int .i32 x]) 22 22 v (.slice (some ⟨hh.size, 0, none⟩) 1 2) = some (v3, h3) := e3
        rw [if_neg cs] at hdt
        have O4 : OwI h.size h3 v3 (quo (l.take (i + 1))) := by rw [hdt]; exact O3
        simp only [wk, wt, wl, ↓reduceIte, Nat.reduceEqDiff, Nat.reduceAdd, Nat.zero_add, not_false_eq_true, not_true_eq_false, t6, t7, t8, t3, IX, LX, d1, d2, e3', wi, intOf_int]
        exact ⟨⟨i + 1, v3, rfl, rfl, by omega, O4, K3⟩, by omega⟩
    · have d1 := decide_eq_false c1
      have cs := nsp (fun e => c1 e.1)
      obtain ⟨v3, h3, e3, O3, K3, _, _⟩ := O.lit K [x] (by simp; omega)
      have e3' : aappend prog (hh.new 21 [.int .i32 x]) 22 22 v (.slice (some ⟨hh.size, 0, none⟩) 1 2) = some (v3, h3) := e3
      rw [if_neg cs] at hdt
      have O4 : OwI h.size h3 v3 (quo (l.take (i + 1))) := by rw [hdt]; exact O3
      simp only [wk, wt, wl, ↓reduceIte, Nat.reduceEqDiff, Nat.reduceAdd, Nat.zero_add, not_false_eq_true, not_true_eq_false, t6, t7, t8, t3, IX, LX, d1, e3', wi, intOf_int]
      exact ⟨⟨i + 1, v3, rfl, rfl, by omega, O4, K3⟩, by omega⟩
  · obtain rfl : i = l.length := by omega
    rw [List.take_length] at O
    simp only [wk, wt, wl, ↓reduceIte, Nat.reduceEqDiff, Nat.reduceAdd, Nat.zero_add, not_false_eq_true, not_true_eq_false, t3]
    exact ⟨O, K⟩
theorem refQuote_ok {h : Heap} {lv : Value} {l : List Int} (S : RdI prog h .i32 lv l) (hl : l.length ≤ 100000000) : ACalls prog 18 #[lv] h (fun y h' => OwI h.size h' y (quo l) ∧ Keeps h h') := by
  refine acalls_of_W' func18 rfl (by kernel_rfl) (by kernel_rfl) (by simp [ntmps18]) ?_
  intro H
  simp only [wk, wt, wl, ↓reduceIte, Nat.reduceEqDiff, Nat.reduceAdd, Nat.zero_add, not_false_eq_true, not_true_eq_false]
  refine W_loop (fun tm hh => tm 0 = lv ∧ ∃ (i : Nat) (v : Value), tm 4 = .int .i64 (i : Int) ∧ tm 3 = v ∧ i ≤ l.length ∧ OwI h.size hh v (quo (l.take i)) ∧ Keeps h hh) (fun tm _ => (l.length - intOf (tm 4)).toNat)
    ⟨(by first | rfl | (simp only [wk, wt, wl, ↓reduceIte, Nat.reduceEqDiff, Nat.reduceAdd, Nat.zero_add, not_false_eq_true, not_true_eq_false]; done) | (simp only [wk, wt, wl, ↓reduceIte, Nat.reduceEqDiff, Nat.reduceAdd, Nat.zero_add, not_false_eq_true, not_true_eq_false]; rfl)), 0, nilS, (by first | rfl | (simp only [wk, wt, wl, ↓reduceIte, Nat.reduceEqDiff, Nat.reduceAdd, Nat.zero_add, not_false_eq_true, not_true_eq_false]; done) | (simp only [wk, wt, wl, ↓reduceIte, Nat.reduceEqDiff, Nat.reduceAdd, Nat.zero_add, not_false_eq_true, not_true_eq_false]; rfl)), (by first | rfl | (simp only [wk, wt, wl, ↓reduceIte, Nat.reduceEqDiff, Nat.reduceAdd, Nat.zero_add, not_false_eq_true, not_true_eq_false]; done) | (simp only [wk, wt, wl, ↓reduceIte, Nat.reduceEqDiff, Nat.reduceAdd, Nat.zero_add, not_false_eq_true, not_true_eq_false]; rfl) | (simp only [wk, wt, wl, ↓reduceIte, Nat.reduceEqDiff, Nat.reduceAdd, Nat.zero_add, not_false_eq_true, not_true_eq_false, nilS]; done) | (simp only [wk, wt, wl, ↓reduceIte, Nat.reduceEqDiff, Nat.reduceAdd, Nat.zero_add, not_false_eq_true, not_true_eq_false, nilS]; rfl)), by omega, OwI.nil, Keeps.refl H⟩ ?_
  rintro tm hh ⟨t0, i, v, t4, t3, hi, O, K⟩
  have LN := (S.keeps K).ln (n := (l.length : Int)) rfl
  simp only [wk, wt, wl, ↓reduceIte, Nat.reduceEqDiff, Nat.reduceAdd, Nat.zero_add, not_false_eq_true, not_true_eq_false, t0, t4, LN]
  refine condK_dec (fun hd => ?_) (fun hd => ?_)
  · have hi2 : i < l.length := by omega
    obtain ⟨x, hx⟩ : ∃ x, l[i]? = some x := ⟨_, List.getElem?_eq_getElem hi2⟩
    have hdt : quo (l.take (i + 1)) = quo (l.take i) ++ (if spe x then [92, x] else [x]) := by rw [List.take_add_one, hx]; exact quo_app _ _
    have hql := quo_len (l.take i)
    have hti : (l.take i).length ≤ i := by rw [List.length_take]; omega
    have IX := ((S.keeps K).ix hx).1
    have LX := ((S.keeps K).ix hx).2
    have wi : IntKind.i64.wrap ((i : Int) + 1) = ((i + 1 : Nat) : Int) := by rw [IntWalk.i64_in _ (by omega)]; omega
    have fin : spe x → (x = 92 ∨ x = 46 ∨ x = 91 ∨ x = 42 ∨ x = 94 ∨ x = 36) := id
    by_cases c1 : x = 92
    · have cs : spe x := .inl c1
      have d1 := decide_eq_true c1
      obtain ⟨v2, h2, e2, O2, K2, _, _⟩ := O.lit K [92] (by simp; omega)
      obtain ⟨v3, h3, e3, O3, K3, _, _⟩ := O2.lit K2 [x] (by simp; omega)
      have e2' : aappend prog (hh.new 21 [.int .i32 92]) 22 22 v (.slice (some ⟨hh.size, 0, none⟩) 1 2) = some (v2, h2) := e2
      have e3' : aappend prog (h2.new 21 [.int .i32 x]) 22 22 v2 (.slice (some ⟨h2.size, 0, none⟩) 1 2) = some (v3, h3) := e3
      have IX2 := ((S.keeps K2).ix hx).1
      have LX2 := ((S.keeps K2).ix hx).2
      rw [if_pos cs] at hdt
      rw [List.append_assoc] at O3
      have O4 : OwI h.size h3 v3 (quo (l.take (i + 1))) := by rw [hdt]; exact O3
      simp only [wk, wt, wl, ↓reduceIte, Nat.reduceEqDiff, Nat.reduceAdd, Nat.zero_add, not_false_eq_true, not_true_eq_false, t0, t4, t3, IX, LX, d1, e2', IX2, LX2, e3', wi, intOf_int]
      exact ⟨⟨i + 1, v3, rfl, rfl, by omega, O4, K3⟩, by omega⟩
    have d1 := decide_eq_false c1
    by_cases c2 : x = 46
    · have cs : spe x := .inr (.inl c2)
      have d2 := decide_eq_true c2
      obtain ⟨v2, h2, e2, O2, K2, _, _⟩ := O.lit K [92] (by simp; omega)
      obtain ⟨v3, h3, e3, O3, K3, _, _⟩ := O2.lit K2 [x] (by simp; omega)
      have e2' : aappend prog (hh.new 21 [.int .i32 92]) 22 22 v (.slice (some ⟨hh.size, 0, none⟩) 1 2) = some (v2, h2) := e2
      have e3' : aappend prog (h2.new 21 [.int .i32 x]) 22 22 v2 (.slice (some ⟨h2.size, 0, none⟩) 1 2) = some (v3, h3) := e3
      have IX2 := ((S.keeps K2).ix hx).1
      have LX2 := ((S.keeps K2).ix hx).2
      rw [if_pos cs] at hdt
      rw [List.append_assoc] at O3
      have O4 : OwI h.size h3 v3 (quo (l.take (i + 1))) := by rw [hdt]; exact O3
      simp only [wk, wt, wl, ↓reduceIte, Nat.reduceEqDiff, Nat.reduceAdd, Nat.zero_add, not_false_eq_true, not_true_eq_false, t0, t4, t3, IX, LX, d1, d2, e2', IX2, LX2, e3', wi, intOf_int]
      exact ⟨⟨i + 1, v3, rfl, rfl, by omega, O4, K3⟩, by omega⟩
    have d2 := decide_eq_false c2
    by_cases c3 : x = 91
    · have cs : spe x := .inr (.inr (.inl c3))
      have d3 := decide_eq_true c3
      obtain ⟨v2, h2, e2, O2, K2, _, _⟩ := O.lit K [92] (by simp; omega)
      obtain ⟨v3, h3, e3, O3, K3, _, _⟩ := O2.lit K2 [x] (by simp; omega)
      have e2' : aappend prog (hh.new 21 [.int .i32 92]) 22 22 v (.slice (some ⟨hh.size, 0, none⟩) 1 2) = some (v2, h2) := e2
      have e3' : aappend prog (h2.new 21 [.int .i32 x]) 22 22 v2 (.slice (some ⟨h2.size, 0, none⟩) 1 2) = some (v3, h3) := e3
      have IX2 := ((S.keeps K2).ix hx).1
      have LX2 := ((S.keeps K2).ix hx).2
      rw [if_pos cs] at hdt
      rw [List.append_assoc] at O3
      have O4 : OwI h.size h3 v3 (quo (l.take (i + 1))) := by rw [hdt]; exact O3
      simp only [wk, wt, wl, ↓reduceIte, Nat.reduceEqDiff, Nat.reduceAdd, Nat.zero_add, not_false_eq_true, not_true_eq_false, t0, t4, t3, IX, LX, d1, d2, d3, e2', IX2, LX2, e3', wi, intOf_int]
      exact ⟨⟨i + 1, v3, rfl, rfl, by omega, O4, K3⟩, by omega⟩
    have d3 := decide_eq_false c3
    by_cases c4 : x = 42
    · have cs : spe x := .inr (.inr (.inr (.inl c4)))
      have d4 := decide_eq_true c4
      obtain ⟨v2, h2, e2, O2, K2, _, _⟩ := O.lit K [92] (by simp; omega)
      obtain ⟨v3, h3, e3, O3, K3, _, _⟩ := O2.lit K2 [x] (by simp; omega)
      have e2' : aappend prog (hh.new 21 [.int .i32 92]) 22 22 v (.slice (some ⟨hh.size, 0, none⟩) 1 2) = some (v2, h2) := e2
      have e3' : aappend prog (h2.new 21 [.int .i32 x]) 22 22 v2 (.slice (some ⟨h2.size, 0, none⟩) 1 2) = some (v3, h3) := e3
      have IX2 := ((S.keeps K2).ix hx).1
      have LX2 := ((S.keeps K2).ix hx).2
      rw [if_pos cs] at hdt
      rw [List.append_assoc] at O3
      have O4 : OwI h.size h3 v3 (quo (l.take (i + 1))) := by rw [hdt]; exact O3
      simp only [wk, wt, wl, ↓reduceIte, Nat.reduceEqDiff, Nat.reduceAdd, Nat.zero_add, not_false_eq_true, not_true_eq_false, t0, t4, t3, IX, LX, d1, d2, d3, d4, e2', IX2, LX2, e3', wi, intOf_int]
      exact ⟨⟨i + 1, v3, rfl, rfl, by omega, O4, K3⟩, by omega⟩
    have d4 := decide_eq_false c4
    by_cases c5 : x = 94
    · have cs : spe x := .inr (.inr (.inr (.inr (.inl c5))))
      have d5 := decide_eq_true c5
      obtain ⟨v2, h2, e2, O2, K2, _, _⟩ := O.lit K [92] (by simp; omega)
      obtain ⟨v3, h3, e3, O3, K3, _, _⟩ := O2.lit K2 [x] (by simp; omega)
      have e2' : aappend prog (hh.new 21 [.int .i32 92]) 22 22 v (.slice (some ⟨hh.size, 0, none⟩) 1 2) = some (v2, h2) := e2
      have e3' : aappend prog (h2.new 21 [.int .i32 x]) 22 22 v2 (.slice (some ⟨h2.size, 0, none⟩) 1 2) = some (v3, h3) := e3
      have IX2 := ((S.keeps K2).ix hx).1
      have LX2 := ((S.keeps K2).ix hx).2
      rw [if_pos cs] at hdt
      rw [List.append_assoc] at O3
      have O4 : OwI h.size h3 v3 (quo (l.take (i + 1))) := by rw [hdt]; exact O3
      simp only [wk, wt, wl, ↓reduceIte, Nat.reduceEqDiff, Nat.reduceAdd, Nat.zero_add, not_false_eq_true, not_true_eq_false, t0, t4, t3, IX, LX, d1, d2, d3, d4, d5, e2', IX2, LX2, e3', wi, intOf_int]
      exact ⟨⟨i + 1, v3, rfl, rfl, by omega, O4, K3⟩, by omega⟩
    have d5 := decide_eq_false c5
    by_cases c6 : x = 36
    · have cs : spe x := .inr (.inr (.inr (.inr (.inr c6))))
      have d6 := decide_eq_true c6
      obtain ⟨v2, h2, e2, O2, K2, _, _⟩ := O.lit K [92] (by simp; omega)
      obtain ⟨v3, h3, e3, O3, K3, _, _⟩ := O2.lit K2 [x] (by simp; omega)
      have e2' : aappend prog (hh.new 21 [.int .i32 92]) 22 22 v (.slice (some ⟨hh.size, 0, none⟩) 1 2) = some (v2, h2) := e2
      have e3' : aappend prog (h2.new 21 [.int .i32 x]) 22 22 v2 (.slice (some ⟨h2.size, 0, none⟩) 1 2) = some (v3, h3) := e3
      have IX2 := ((S.keeps K2).ix hx).1
      have LX2 := ((S.keeps K2).ix hx).2
      rw [if_pos cs] at hdt
      rw [List.append_assoc] at O3
      have O4 : OwI h.size h3 v3 (quo (l.take (i + 1))) := by rw [hdt]; exact O3
      simp only [wk, wt, wl, ↓reduceIte, Nat.reduceEqDiff, Nat.reduceAdd, Nat.zero_add, not_false_eq_true, not_true_eq_false, t0, t4, t3, IX, LX, d1, d2, d3, d4, d5, d6, e2', IX2, LX2, e3', wi, intOf_int]
      exact ⟨⟨i + 1, v3, rfl, rfl, by omega, O4, K3⟩, by omega⟩
    have d6 := decide_eq_false c6
    have cs : ¬ spe x := fun e => by rcases fin e with e | e | e | e | e | e <;> contradiction
    obtain ⟨v3, h3, e3, O3, K3, _, _⟩ := O.lit K [x] (by simp; omega)
    have e3' : aappend prog (hh.new 21 [.int .i32 x]) 22 22 v (.slice (some ⟨hh.size, 0, none⟩) 1 2) = some (v3, h3) := e3
    rw [if_neg cs] at hdt
    have O4 : OwI h.size h3 v3 (quo (l.take (i + 1))) := by rw [hdt]; exact O3
    simp only [wk, wt, wl, ↓reduceIte, Nat.reduceEqDiff, Nat.reduceAdd, Nat.zero_add, not_false_eq_true, not_true_eq_false, t0, t4, t3, IX, LX, d1, d2, d3, d4, d5, d6, e3', wi, intOf_int]
    exact ⟨⟨i + 1, v3, rfl, rfl, by omega, O4, K3⟩, by omega⟩
  · obtain rfl : i = l.length := by omega
    rw [List.take_length] at O
    simp only [wk, wt, wl, ↓reduceIte, Nat.reduceEqDiff, Nat.reduceAdd, Nat.zero_add, not_false_eq_true, not_true_eq_false, t3]
    exact ⟨O, K⟩
end Go.Proofs.Ytnnkcbkenofhmaa.Am
end
section
/- PatQuotes told of abstract memory. -/
set_option linter.unusedSimpArgs false
set_option linter.unusedVariables false
set_option maxHeartbeats 4000000
set_option maxRecDepth 20000
namespace Go.Proofs.Ytnnkcbkenofhmaa.Am
open Go Go.RowKit Go.Proofs.Try
theorem runesEq_ok {h : Heap} {v w : Value} {l : List Int} (S : RdI prog h .i32 v l) (T : RdI prog h .i32 w l) (hl : l.length ≤ 100000000) : ACalls prog 15 #[v, w] h (fun y h' => y = .bool true ∧ h' = h) := by
  refine acalls_of_W func15 rfl (by kernel_rfl) (by kernel_rfl) (by simp [ntmps15]) ?_
  have L1 := S.ln (n := (l.length : Int)) rfl
  have L2 := T.ln (n := (l.length : Int)) rfl
  have d0 : decide (¬ (l.length : Int) = (l.length : Int)) = false := by simp
  simp only [wk, wt, wl, ↓reduceIte, Nat.reduceEqDiff, Nat.reduceAdd, Nat.zero_add, not_false_eq_true, not_true_eq_false, L1, L2, d0]
  refine W_loop (fun tm hh => h = hh ∧ tm 0 = v ∧ tm 1 = w ∧ ∃ i : Nat, tm 5 = .int .i64 (i : Int) ∧ i ≤ l.length) (fun tm _ => (l.length - intOf (tm 5)).toNat) ⟨rfl, (by first | rfl | (simp only [wk, wt, wl, ↓reduceIte, Nat.reduceEqDiff, Nat.reduceAdd, Nat.zero_add, not_false_eq_true, not_true_eq_false]; done) | (simp only [wk, wt, wl, ↓reduceIte, Nat.reduceEqDiff, Nat.reduceAdd, Nat.zero_add, not_false_eq_true, not_true_eq_false]; rfl)), (by first | rfl | (simp only [wk, wt, wl, ↓reduceIte, Nat.reduceEqDiff, Nat.reduceAdd, Nat.zero_add, not_false_eq_true, not_true_eq_false]; done) | (simp only [wk, wt, wl, ↓reduceIte, Nat.reduceEqDiff, Nat.reduceAdd, Nat.zero_add, not_false_eq_true, not_true_eq_false]; rfl)), 0, (by first | rfl | (simp only [wk, wt, wl, ↓reduceIte, Nat.reduceEqDiff, Nat.reduceAdd, Nat.zero_add, not_false_eq_true, not_true_eq_false]; done) | (simp only [wk, wt, wl, ↓reduceIte, Nat.reduceEqDiff, Nat.reduceAdd, Nat.zero_add, not_false_eq_true, not_true_eq_false]; rfl)), by omega⟩ ?_
  rintro tm _ ⟨rfl, t0, t1, i, t5, hi⟩
  simp only [wk, wt, wl, ↓reduceIte, Nat.reduceEqDiff, Nat.reduceAdd, Nat.zero_add, not_false_eq_true, not_true_eq_false, t0, t1, t5, L1]
  refine condK_dec (fun hd => ?_) (fun hd => ?_)
  · have hi2 : i < l.length := by omega
    obtain ⟨x, hx⟩ : ∃ x, l[i]? = some x := ⟨_, List.getElem?_eq_getElem hi2⟩
    have wi : IntKind.i64.wrap ((i : Int) + 1) = ((i + 1 : Nat) : Int) := by rw [IntWalk.i64_in _ (by omega)]; omega
    have d1 : decide (¬ x = x) = false := by simp
    refine adraw_order [(0, false), (1, false), (2, false), (3, false), (4, false), (5, false), (6, false), (7, false), (8, false)] mixed (by kernel_rfl) (by kernel_rfl) (by kernel_rfl) (by with_reducible repeat (first | exact PF_retK | refine PF_thenK ?_ | refine PF_blockK ?_)) ?_
    simp only [wk, wt, wl, ↓reduceIte, Nat.reduceEqDiff, Nat.reduceAdd, Nat.zero_add, not_false_eq_true, not_true_eq_false, t0, t1, t5, (S.ix hx).1, (S.ix hx).2, (T.ix hx).1, (T.ix hx).2, d1, wi, intOf_int]
    exact ⟨⟨i + 1, rfl, by omega⟩, by omega⟩
  · simp only [wk, wt, wl, ↓reduceIte, Nat.reduceEqDiff, Nat.reduceAdd, Nat.zero_add, not_false_eq_true, not_true_eq_false]
theorem leafs_ok : ∀ (l : List Int), PatsOk (l.map pR)
  | [] => trivial
  | x :: l => ⟨patOk_leaf (by decide), leafs_ok l⟩
theorem patQuotes_law {h : Heap} {lv : Value} {l : List Int} (S : RdI prog h .i32 lv l) (hl : l.length ≤ 100000000) (h32 : I32 l) : ACalls prog 7 #[lv] h (fun y h' => y = .bool true ∧ Keeps h h') := by
  refine acalls_of_W' func7 rfl (by kernel_rfl) (by kernel_rfl) (by simp [ntmps7]) ?_
  intro H
  have LN := fun {hh : Heap} (K : Keeps h hh) => (S.keeps K).ln (n := (l.length : Int)) rfl
  simp only [wk, wt, wl, ↓reduceIte, Nat.reduceEqDiff, Nat.reduceAdd, Nat.zero_add, not_false_eq_true, not_true_eq_false]
  refine (quote_ok S hl).use ?_
  rintro qv h1 ⟨O1, K1⟩
  simp only [wk, wt, wl, ↓reduceIte, Nat.reduceEqDiff, Nat.reduceAdd, Nat.zero_add, not_false_eq_true, not_true_eq_false, LN K1]
  refine condK_dec (fun c0 => ?_) (fun c0 => ?_)
  · simp only [wk, wt, wl, ↓reduceIte, Nat.reduceEqDiff, Nat.reduceAdd, Nat.zero_add, not_false_eq_true, not_true_eq_false]
    exact K1
  · have hq := quo_parse (l := l) (by omega)
    have hql := quo_len l
    simp only [wk, wt, wl, ↓reduceIte, Nat.reduceEqDiff, Nat.reduceAdd, Nat.zero_add, not_false_eq_true, not_true_eq_false, LN K1]
    refine (parse_ok O1.rd (by omega) (fun x hx => by
      rcases quo_mem hx with rfl | hx
      · omega
      · exact h32 x hx)).use ?_
    rintro _ h2 ⟨c2, rfl, P2, K2⟩
    rw [hq] at P2
    obtain ⟨h3, e3, V3, P3, K3, z3⟩ := var_new (K1.trans K2) P2
    have K13 := K2.trans K3
    have K03 := K1.trans K13
    have d1 : decide (¬ (0 : Int) = 0) = false := rfl
    simp only [wk, wt, wl, ↓reduceIte, Nat.reduceEqDiff, Nat.reduceAdd, Nat.zero_add, not_false_eq_true, not_true_eq_false, hq, newRe, newSz, e3, d1]
    refine (refQuote_ok (S.keeps K03) hl).use ?_
    rintro qw h4 ⟨O4, K4⟩
    simp only [wk, wt, wl, ↓reduceIte, Nat.reduceEqDiff, Nat.reduceAdd, Nat.zero_add, not_false_eq_true, not_true_eq_false]
    refine (runesEq_ok (O1.rd.keeps (K13.trans K4)) O4.rd (by omega)).use ?_
    rintro _ h5 ⟨rfl, h45⟩
    obtain rfl := h45.symm
    have K05 := K03.trans K4
    have V5 := Keeps.var (Ch.wf K03) K4 V3
    have P5 := ReR.ch K4 (fun _ e => e.elim) _ _ P3
    rcases l with _ | ⟨x, _ | ⟨y, l⟩⟩
    · have d2 : decide ((([] : List Int).length : Int) = 0) = true := rfl
      simp only [wk, wt, wl, ↓reduceIte, Nat.reduceEqDiff, Nat.reduceAdd, Nat.zero_add, not_false_eq_true, not_true_eq_false, LN K05, d2, V5.re, build_re0]
      refine (same_all _ pE c2 rc0 _ _ (Bx h2.size) (Nat.lt_succ_self _) (patOk_leaf (by decide)) P5 ReR.e).use ?_
      rintro _ h6 ⟨rfl, K6⟩
      simp only [wk, wt, wl, ↓reduceIte, Nat.reduceEqDiff, Nat.reduceAdd, Nat.zero_add, not_false_eq_true, not_true_eq_false]
      refine (awake_ok).use ?_
      rintro _ h7 ⟨rfl, K7⟩
      simp only [wk, wt, wl, ↓reduceIte, Nat.reduceEqDiff, Nat.reduceAdd, Nat.zero_add, not_false_eq_true, not_true_eq_false]
      exact (K05.trans K6).trans K7
    · have d2 : decide ((([x] : List Int).length : Int) = 0) = false := rfl
      have d3 : decide ((([x] : List Int).length : Int) = 1) = true := rfl
      have S5 := S.keeps K05
      have IX : aindexAddr prog 22 lv (.int .i64 0) = _ := (S5.ix (i := 0) rfl).1
      have LX := (S5.ix (i := 0) rfl).2
      simp only [wk, wt, wl, ↓reduceIte, Nat.reduceEqDiff, Nat.reduceAdd, Nat.zero_add, not_false_eq_true, not_true_eq_false, LN K05, d2, d3]
      refine adraw_order [(0, false), (1, false), (2, false), (3, false), (4, false), (5, true), (6, false), (7, true), (8, false), (9, false)] mixed (by kernel_rfl) (by kernel_rfl) (by kernel_rfl) (by with_reducible repeat (first | exact PF_retK | refine PF_thenK ?_ | refine PF_blockK ?_)) ?_
      simp only [wk, wt, wl, ↓reduceIte, Nat.reduceEqDiff, Nat.reduceAdd, Nat.zero_add, not_false_eq_true, not_true_eq_false, V5.re, IX, LX, build_rer]
      refine (same_all _ (pR x) c2 { rc0 with k := 1, r := x } _ _ (Bx h2.size) (Nat.lt_succ_self _) (patOk_leaf (by decide)) P5 ReR.r).use ?_
      rintro _ h6 ⟨rfl, K6⟩
      simp only [wk, wt, wl, ↓reduceIte, Nat.reduceEqDiff, Nat.reduceAdd, Nat.zero_add, not_false_eq_true, not_true_eq_false, dK_t]
      refine ⟨K6.reads (Ch.wf K05), ?_⟩
      refine (awake_ok).use ?_
      rintro _ h7 ⟨rfl, K7⟩
      simp only [wk, wt, wl, ↓reduceIte, Nat.reduceEqDiff, Nat.reduceAdd, Nat.zero_add, not_false_eq_true, not_true_eq_false, dK_t]
      refine ⟨K7.reads (Ch.wf K6), ?_⟩
      exact (K05.trans K6).trans K7
    · have d2 : decide (((x :: y :: l).length : Int) = 0) = false := decide_eq_false (by simp; omega)
      have d3 : decide (((x :: y :: l).length : Int) = 1) = false := decide_eq_false (by simp; omega)
      generalize hll : x :: y :: l = ll at *
      have hcat : pCat (ll.map pR) = .mk 8 0 [] false 0 0 (ll.map pR) := by rw [← hll]; rfl
      rw [hcat] at P5
      obtain ⟨a1, a2, a3, a4, a5, a6, a7, a8, cl, S5, A5⟩ := P5
      have LK := V5.k0
      rw [a1] at LK
      have LNP : ∀ {hh : Heap}, Keeps h4 hh → abuiltin prog .len #[24] #[c2.pv] = some (.int .i64 (ll.length : Int)) := fun K => by
        have := RS.len (RS.keeps S5 K) underlying24
        rw [A5.len, List.length_map] at this; exact this
      have d4 : decide (¬ (8 : Int) = 8) = false := rfl
      have d5 : decide (¬ (ll.length : Int) = (ll.length : Int)) = false := by simp
      simp only [wk, wt, wl, ↓reduceIte, Nat.reduceEqDiff, Nat.reduceAdd, Nat.zero_add, not_false_eq_true, not_true_eq_false, LN K05, d2, d3, LK, V5.k6, d4, LNP (Keeps.refl (Ch.wf K4)), d5]
      refine W_loop (fun tm hh => Keeps h4 hh ∧ tm 0 = lv ∧ tm 4 = pt h2.size ∧ ∃ i : Nat, tm 6 = .int .i64 (i : Int) ∧ i ≤ ll.length) (fun tm _ => (ll.length - intOf (tm 6)).toNat) ⟨Keeps.refl (Ch.wf K4), (by first | rfl | (simp only [wk, wt, wl, ↓reduceIte, Nat.reduceEqDiff, Nat.reduceAdd, Nat.zero_add, not_false_eq_true, not_true_eq_false]; done) | (simp only [wk, wt, wl, ↓reduceIte, Nat.reduceEqDiff, Nat.reduceAdd, Nat.zero_add, not_false_eq_true, not_true_eq_false]; rfl)), (by first | rfl | (simp only [wk, wt, wl, ↓reduceIte, Nat.reduceEqDiff, Nat.reduceAdd, Nat.zero_add, not_false_eq_true, not_true_eq_false]; done) | (simp only [wk, wt, wl, ↓reduceIte, Nat.reduceEqDiff, Nat.reduceAdd, Nat.zero_add, not_false_eq_true, not_true_eq_false]; rfl) | (simp only [wk, wt, wl, ↓reduceIte, Nat.reduceEqDiff, Nat.reduceAdd, Nat.zero_add, not_false_eq_true, not_true_eq_false, pt]; done) | (simp only [wk, wt, wl, ↓reduceIte, Nat.reduceEqDiff, Nat.reduceAdd, Nat.zero_add, not_false_eq_true, not_true_eq_false, pt]; rfl)), 0, (by first | rfl | (simp only [wk, wt, wl, ↓reduceIte, Nat.reduceEqDiff, Nat.reduceAdd, Nat.zero_add, not_false_eq_true, not_true_eq_false]; done) | (simp only [wk, wt, wl, ↓reduceIte, Nat.reduceEqDiff, Nat.reduceAdd, Nat.zero_add, not_false_eq_true, not_true_eq_false]; rfl)), by omega⟩ ?_
      rintro tm hh ⟨K, t0, t4, i, t6, hi⟩
      have KH := K05.trans K
      have VH := Keeps.var (Ch.wf K4) K V5
      simp only [wk, wt, wl, ↓reduceIte, Nat.reduceEqDiff, Nat.reduceAdd, Nat.zero_add, not_false_eq_true, not_true_eq_false, t0, t4, t6, LN KH]
      refine condK_dec (fun hd => ?_) (fun hd => ?_)
      · have hi2 : i < ll.length := by omega
        obtain ⟨z, hz⟩ : ∃ z, ll[i]? = some z := ⟨_, List.getElem?_eq_getElem hi2⟩
        have hzp : (ll.map pR)[i]? = some (pR z) := by rw [List.getElem?_map, hz]; rfl
        obtain ⟨c', hc', Q⟩ := (RePs.ch K (fun _ e => e.elim) _ _ A5).at hzp
        have hcl := A5.len
        rw [List.length_map] at hcl
        have IX := Rd.index (RS.keeps S5 K) underlying24 asz26 (q := .i64) (i := (i : Int)) (by omega) (by omega)
        rw [Int.toNat_natCast] at IX
        have LX : aload prog hh 26 (eltA c2.pv 7 i) = some (reV c') := RS.agg (RS.keeps S5 K) reC_len underlying26 rfl asz26 hc'
        have IZ := ((S.keeps KH).ix hz).1
        have LZ := ((S.keeps KH).ix hz).2
        have wi : IntKind.i64.wrap ((i : Int) + 1) = ((i + 1 : Nat) : Int) := by rw [IntWalk.i64_in _ (by omega)]; omega
        refine adraw_order [(0, false), (1, false), (2, false), (3, false), (4, false), (5, false), (6, false), (7, false), (8, false), (9, false), (10, true), (11, false)] mixed (by kernel_rfl) (by kernel_rfl) (by kernel_rfl) (by with_reducible repeat (first | exact PF_retK | refine PF_thenK ?_ | refine PF_blockK ?_)) ?_
        simp only [wk, wt, wl, ↓reduceIte, Nat.reduceEqDiff, Nat.reduceAdd, Nat.zero_add, not_false_eq_true, not_true_eq_false, t0, t4, t6, pt, VH.k6, IX, LX, IZ, LZ, build_rer]
        refine (same_all _ (pR z) c' { rc0 with k := 1, r := z } _ _ (Bx h2.size) (Nat.lt_succ_self _) (patOk_leaf (by decide)) Q ReR.r).use ?_
        rintro _ h6 ⟨rfl, K6⟩
        simp only [wk, wt, wl, ↓reduceIte, Nat.reduceEqDiff, Nat.reduceAdd, Nat.zero_add, not_false_eq_true, not_true_eq_false, dK_t]
        refine ⟨K6.reads (Ch.wf KH), ?_⟩
        simp only [wk, wt, wl, ↓reduceIte, Nat.reduceEqDiff, Nat.reduceAdd, Nat.zero_add, not_false_eq_true, not_true_eq_false, t0, t4, t6, pt, wi, intOf_int]
        exact ⟨⟨K.trans K6, i + 1, rfl, by omega⟩, by omega⟩
      · simp only [wk, wt, wl, ↓reduceIte, Nat.reduceEqDiff, Nat.reduceAdd, Nat.zero_add, not_false_eq_true, not_true_eq_false]
        refine (awake_ok).use ?_
        rintro _ h7 ⟨rfl, K7⟩
        simp only [wk, wt, wl, ↓reduceIte, Nat.reduceEqDiff, Nat.reduceAdd, Nat.zero_add, not_false_eq_true, not_true_eq_false]
        exact KH.trans K7
end Go.Proofs.Ytnnkcbkenofhmaa.Am
end
section
/- Patterns: the document's reckoning of how large one is; both counts of groups; by walks. -/
set_option linter.unusedSimpArgs false
set_option linter.unusedVariables false
set_option maxHeartbeats 4000000
set_option maxRecDepth 20000
namespace Go.Proofs.Ytnnkcbkenofhmaa.Am
open Go Go.RowKit Go.Proofs.Try
theorem refSize_all : ∀ (m : Nat) (p : Pat) (c : RC) (h : Heap) (D : Nat → Prop), SizeOf.sizeOf p < m → PatOk p → ReR h D p c → ACalls prog 24 #[reV c] h (fun y h' => y = .int .i64 (sizeM p) ∧ Keeps h h')
  | 0, p, c, h, D, hm, _, _ => by omega
  | m + 1, p, c, h, D, hm, hok, P => by
    refine acalls_of_W' func24 rfl (by kernel_rfl) (by kernel_rfl) (by simp [ntmps24]) ?_
    intro H
    obtain ⟨k, r, set, nt, lo, hi, ps⟩ := p
    have P0 := P
    simp only [ReR] at P
    obtain ⟨p1, p2, p3, p4, p5, p6, p7, p8, l, PS, PR⟩ := P
    have N1 := Keeps.new H 26 (reC c)
    have V1 := Var.new (e := 26) H (cs := reC c)
    have hll := PR.len
    have LK : ∀ {hh : Heap}, Var hh h.size (reC c) → aload prog hh 3 ⟨h.size, 0, none⟩ = some (.int .i64 k) := fun V => by rw [← p1]; exact V.k0
    have LLO : ∀ {hh : Heap}, Var hh h.size (reC c) → aload prog hh 3 ⟨h.size, 4, none⟩ = some (.int .i64 lo) := fun V => by rw [← p4]; exact V.k4
    have LHI : ∀ {hh : Heap}, Var hh h.size (reC c) → aload prog hh 3 ⟨h.size, 5, none⟩ = some (.int .i64 hi) := fun V => by rw [← p5]; exact V.k5
    have LPV : ∀ {hh : Heap}, Var hh h.size (reC c) → aload prog hh 24 ⟨h.size, 6, none⟩ = some c.pv := fun V => V.k6
    simp only [PatOk] at hok
    simp only [wk, wt, wl, ↓reduceIte, Nat.reduceEqDiff, Nat.reduceAdd, Nat.zero_add, not_false_eq_true, not_true_eq_false, pt, aeff_box, boxRe P0.one1.1 P0.one1.2]
    refine W_loop (fun tm hh => Keeps (h.new 26 (reC c)) hh ∧ tm 1 = pt h.size ∧ ∃ (i : Nat) (n : Int), tm 4 = .int .i64 (i : Int) ∧ tm 3 = .int .i64 n ∧ i ≤ l.length ∧ 1 ≤ n ∧ n ≤ 401 ∧ sizesM k lo hi n (ps.drop i) = sizesM k lo hi 1 ps)
      (fun tm _ => (l.length - intOf (tm 4)).toNat) ⟨Keeps.refl (Ch.wf N1), (by first | rfl | (simp only [wk, wt, wl, ↓reduceIte, Nat.reduceEqDiff, Nat.reduceAdd, Nat.zero_add, not_false_eq_true, not_true_eq_false]; done) | (simp only [wk, wt, wl, ↓reduceIte, Nat.reduceEqDiff, Nat.reduceAdd, Nat.zero_add, not_false_eq_true, not_true_eq_false]; rfl) | (simp only [wk, wt, wl, ↓reduceIte, Nat.reduceEqDiff, Nat.reduceAdd, Nat.zero_add, not_false_eq_true, not_true_eq_false, pt]; done) | (simp only [wk, wt, wl, ↓reduceIte, Nat.reduceEqDiff, Nat.reduceAdd, Nat.zero_add, not_false_eq_true, not_true_eq_false, pt]; rfl)), 0, 1, (by first | rfl | (simp only [wk, wt, wl, ↓reduceIte, Nat.reduceEqDiff, Nat.reduceAdd, Nat.zero_add, not_false_eq_true, not_true_eq_false]; done) | (simp only [wk, wt, wl, ↓reduceIte, Nat.reduceEqDiff, Nat.reduceAdd, Nat.zero_add, not_false_eq_true, not_true_eq_false]; rfl)), (by first | rfl | (simp only [wk, wt, wl, ↓reduceIte, Nat.reduceEqDiff, Nat.reduceAdd, Nat.zero_add, not_false_eq_true, not_true_eq_false]; done) | (simp only [wk, wt, wl, ↓reduceIte, Nat.reduceEqDiff, Nat.reduceAdd, Nat.zero_add, not_false_eq_true, not_true_eq_false]; rfl)), by omega, by omega, by omega, rfl⟩ ?_
    rintro tm hh ⟨K, t1, i, n, t4, t3, hi1, hn1, hn4, hR⟩
    have LNP := RS.len (RS.keeps PS (N1.trans K)) underlying24
    simp only [wk, wt, wl, ↓reduceIte, Nat.reduceEqDiff, Nat.reduceAdd, Nat.zero_add, not_false_eq_true, not_true_eq_false, pt, t1, t4, t3, LPV (Keeps.var (Ch.wf N1) K V1), LNP]
    refine condK_dec (fun hd => ?_) (fun hd => ?_)
    · have hi2 : i < l.length := by omega
      obtain ⟨p', hp'⟩ : ∃ p', ps[i]? = some p' := ⟨_, List.getElem?_eq_getElem (by omega)⟩
      have PRh := RePs.ch (N1.trans K) (fun _ e => e.elim) ps l PR
      have PSh : RS prog hh 7 reC c.pv l := RS.keeps PS (N1.trans K)
      obtain ⟨c', hc', Q⟩ := PRh.at hp'
      have IX := Rd.index PSh underlying24 asz26 (q := .i64) (i := (i : Int)) (by omega) (by omega)
      rw [Int.toNat_natCast] at IX
      have LX : aload prog hh 26 (eltA c.pv 7 i) = some (reV c') := RS.agg PSh reC_len underlying26 rfl asz26 hc'
      have Vh := Keeps.var (Ch.wf N1) K V1
      have hdr : ps.drop i = p' :: ps.drop (i + 1) := dropAt hp'
      have hok' := hok.2.2.at hp'
      have wi : IntKind.i64.wrap ((i : Int) + 1) = ((i + 1 : Nat) : Int) := by rw [IntWalk.i64_in _ (by have := hok.2.1.1; omega)]; omega
      rw [hdr] at hR
      simp only [sizesM] at hR
      have hw := wgt_pos hok.1 hok'
      simp only [wk, wt, wl, ↓reduceIte, Nat.reduceEqDiff, Nat.reduceAdd, Nat.zero_add, not_false_eq_true, not_true_eq_false, pt, t1, t4, t3, LPV Vh, IX, LX]
      refine (refSize_all m p' c' hh D (by have := pat_lt (k := k) (r := r) (s := set) (nt := nt) (lo := lo) (hi := hi) hp'; omega) hok' Q).use ?_
      rintro _ h4 ⟨rfl, K4⟩
      have V4 := Keeps.var (Ch.wf N1) (K.trans K4) V1
      have K04 := K.trans K4
      by_cases ck : k = 10
      · have d1 := decide_eq_true ck
        have hww : wgt k lo hi p' = sizeM p' * kmax (kmax 1 lo) hi := by unfold wgt; rw [if_pos ck]
        rw [hww] at hw
        rw [if_pos ck] at hR
        have w1 : IntKind.i64.wrap (sizeM p' * kmax (kmax 1 lo) hi) = sizeM p' * kmax (kmax 1 lo) hi := IntWalk.i64_in _ (by omega)
        have w2 : IntKind.i64.wrap (n + sizeM p' * kmax (kmax 1 lo) hi) = n + sizeM p' * kmax (kmax 1 lo) hi := IntWalk.i64_in _ (by omega)
        have M3 := kmin_spec (n + sizeM p' * kmax (kmax 1 lo) hi) 401
        simp only [wk, wt, wl, ↓reduceIte, Nat.reduceEqDiff, Nat.reduceAdd, Nat.zero_add, not_false_eq_true, not_true_eq_false, pt, t1, t4, t3, LK V4, LLO V4, LHI V4, d1, mxV3, mnV, w1, w2, wi, intOf_int]
        exact ⟨⟨K04, i + 1, _, rfl, rfl, by omega, by omega, by omega, hR⟩, by omega⟩
      · have d1 := decide_eq_false ck
        have hww : wgt k lo hi p' = sizeM p' := by unfold wgt; rw [if_neg ck]
        rw [hww] at hw
        rw [if_neg ck] at hR
        have w2 : IntKind.i64.wrap (n + sizeM p') = n + sizeM p' := IntWalk.i64_in _ (by omega)
        have M3 := kmin_spec (n + sizeM p') 401
        simp only [wk, wt, wl, ↓reduceIte, Nat.reduceEqDiff, Nat.reduceAdd, Nat.zero_add, not_false_eq_true, not_true_eq_false, pt, t1, t4, t3, LK V4, d1, mnV, w2, wi, intOf_int]
        exact ⟨⟨K04, i + 1, _, rfl, rfl, by omega, by omega, by omega, hR⟩, by omega⟩
    · have : i = ps.length := by omega
      rw [this, List.drop_length] at hR
      simp only [sizesM] at hR
      simp only [wk, wt, wl, ↓reduceIte, Nat.reduceEqDiff, Nat.reduceAdd, Nat.zero_add, not_false_eq_true, not_true_eq_false, t3]
      exact ⟨by rw [hR]; simp only [sizeM], N1.trans K⟩
theorem short_ok {h : Heap} {p : Pat} {c : RC} {D : Nat → Prop} (hok : PatOk p) (P : ReR h D p c) : ACalls prog 16 #[reV c] h (fun y h' => y = .bool (decide (sizeM p ≤ 100)) ∧ Keeps h h') := by
  refine acalls_of_W' func16 rfl (by kernel_rfl) (by kernel_rfl) (by simp [ntmps16]) ?_
  intro H
  have N1 := Keeps.new H 26 (reC c)
  have V1 := Var.new (e := 26) H (cs := reC c)
  simp only [wk, wt, wl, ↓reduceIte, Nat.reduceEqDiff, Nat.reduceAdd, Nat.zero_add, not_false_eq_true, not_true_eq_false, pt, aeff_box, boxRe P.one1.1 P.one1.2, V1.re]
  refine (refSize_all _ p c _ D (Nat.lt_succ_self _) hok (ReR.ch N1 (fun _ e => e.elim) p c P)).use ?_
  rintro _ h2 ⟨rfl, K2⟩
  simp only [wk, wt, wl, ↓reduceIte, Nat.reduceEqDiff, Nat.reduceAdd, Nat.zero_add, not_false_eq_true, not_true_eq_false]
  exact N1.trans K2
/-- Counts may wrap: they are told so. -/
theorem wrap_add {x y : Int} : IntKind.i64.wrap (IntKind.i64.wrap x + IntKind.i64.wrap y) = IntKind.i64.wrap (x + y) := by
  rw [IntKind.wrap_i64, IntKind.wrap_i64, IntKind.wrap_i64, IntKind.wrap_i64]; omega
theorem wrap_small {x : Int} (h : x = 0 ∨ x = 1) : IntKind.i64.wrap x = x := IntWalk.i64_in _ (by omega)
theorem refCount_all : ∀ (m : Nat) (p : Pat) (c : RC) (h : Heap) (D : Nat → Prop), SizeOf.sizeOf p < m → PatOk p → ReR h D p c → ACalls prog 14 #[reV c] h (fun y h' => y = .int .i64 (IntKind.i64.wrap (cntM p)) ∧ Keeps h h')
  | 0, p, c, h, D, hm, _, _ => by omega
  | m + 1, p, c, h, D, hm, hok, P => by
    refine acalls_of_W' func14 rfl (by kernel_rfl) (by kernel_rfl) (by simp [ntmps14]) ?_
    intro H
    obtain ⟨k, r, set, nt, lo, hi, ps⟩ := p
    have P0 := P
    simp only [ReR] at P
    obtain ⟨p1, p2, p3, p4, p5, p6, p7, p8, l, PS, PR⟩ := P
    have N1 := Keeps.new H 26 (reC c)
    have V1 := Var.new (e := 26) H (cs := reC c)
    have hll := PR.len
    have LK : ∀ {hh : Heap}, Var hh h.size (reC c) → aload prog hh 3 ⟨h.size, 0, none⟩ = some (.int .i64 k) := fun V => by rw [← p1]; exact V.k0
    have LLO : ∀ {hh : Heap}, Var hh h.size (reC c) → aload prog hh 3 ⟨h.size, 4, none⟩ = some (.int .i64 lo) := fun V => by rw [← p4]; exact V.k4
    have LHI : ∀ {hh : Heap}, Var hh h.size (reC c) → aload prog hh 3 ⟨h.size, 5, none⟩ = some (.int .i64 hi) := fun V => by rw [← p5]; exact V.k5
    have LPV : ∀ {hh : Heap}, Var hh h.size (reC c) → aload prog hh 24 ⟨h.size, 6, none⟩ = some c.pv := fun V => V.k6
    simp only [PatOk] at hok
    have start : ∃ n0 : Int, n0 = (if k = 11 then 1 else 0) ∧ IntKind.i64.wrap n0 = n0 := ⟨_, rfl, by split <;> exact wrap_small (by simp)⟩
    obtain ⟨n0, hn0, hw0⟩ := start
    by_cases ck : k = 11
    · have d1 := decide_eq_true ck
      rw [if_pos ck] at hn0
      subst hn0
      simp only [wk, wt, wl, ↓reduceIte, Nat.reduceEqDiff, Nat.reduceAdd, Nat.zero_add, not_false_eq_true, not_true_eq_false, pt, aeff_box, boxRe P0.one1.1 P0.one1.2, LK V1, d1]
      refine W_loop (fun tm hh => Keeps (h.new 26 (reC c)) hh ∧ tm 1 = pt h.size ∧ ∃ (i : Nat) (n : Int), tm 4 = .int .i64 (i : Int) ∧ tm 3 = .int .i64 (IntKind.i64.wrap n) ∧ i ≤ l.length ∧ cntsM n (ps.drop i) = cntsM 1 ps)
        (fun tm _ => (l.length - intOf (tm 4)).toNat) ⟨Keeps.refl (Ch.wf N1), (by first | rfl | (simp only [wk, wt, wl, ↓reduceIte, Nat.reduceEqDiff, Nat.reduceAdd, Nat.zero_add, not_false_eq_true, not_true_eq_false]; done) | (simp only [wk, wt, wl, ↓reduceIte, Nat.reduceEqDiff, Nat.reduceAdd, Nat.zero_add, not_false_eq_true, not_true_eq_false]; rfl) | (simp only [wk, wt, wl, ↓reduceIte, Nat.reduceEqDiff, Nat.reduceAdd, Nat.zero_add, not_false_eq_true, not_true_eq_false, pt]; done) | (simp only [wk, wt, wl, ↓reduceIte, Nat.reduceEqDiff, Nat.reduceAdd, Nat.zero_add, not_false_eq_true, not_true_eq_false, pt]; rfl)), 0, 1, (by first | rfl | (simp only [wk, wt, wl, ↓reduceIte, Nat.reduceEqDiff, Nat.reduceAdd, Nat.zero_add, not_false_eq_true, not_true_eq_false]; done) | (simp only [wk, wt, wl, ↓reduceIte, Nat.reduceEqDiff, Nat.reduceAdd, Nat.zero_add, not_false_eq_true, not_true_eq_false]; rfl)), (by first | rfl | (simp only [wk, wt, wl, ↓reduceIte, Nat.reduceEqDiff, Nat.reduceAdd, Nat.zero_add, not_false_eq_true, not_true_eq_false]; done) | (simp only [wk, wt, wl, ↓reduceIte, Nat.reduceEqDiff, Nat.reduceAdd, Nat.zero_add, not_false_eq_true, not_true_eq_false]; rfl) | (simp only [wk, wt, wl, ↓reduceIte, Nat.reduceEqDiff, Nat.reduceAdd, Nat.zero_add, not_false_eq_true, not_true_eq_false, hw0]; done) | (simp only [wk, wt, wl, ↓reduceIte, Nat.reduceEqDiff, Nat.reduceAdd, Nat.zero_add, not_false_eq_true, not_true_eq_false, hw0]; rfl)), by omega, rfl⟩ ?_
      rintro tm hh ⟨K, t1, i, n, t4, t3, hi1, hR⟩
      have LNP := RS.len (RS.keeps PS (N1.trans K)) underlying24
      simp only [wk, wt, wl, ↓reduceIte, Nat.reduceEqDiff, Nat.reduceAdd, Nat.zero_add, not_false_eq_true, not_true_eq_false, pt, t1, t4, t3, LPV (Keeps.var (Ch.wf N1) K V1), LNP]
      refine condK_dec (fun hd => ?_) (fun hd => ?_)
      · have hi2 : i < l.length := by omega
        obtain ⟨p', hp'⟩ : ∃ p', ps[i]? = some p' := ⟨_, List.getElem?_eq_getElem (by omega)⟩
        have PRh := RePs.ch (N1.trans K) (fun _ e => e.elim) ps l PR
        have PSh : RS prog hh 7 reC c.pv l := RS.keeps PS (N1.trans K)
        obtain ⟨c', hc', Q⟩ := PRh.at hp'
        have IX := Rd.index PSh underlying24 asz26 (q := .i64) (i := (i : Int)) (by omega) (by omega)
        rw [Int.toNat_natCast] at IX
        have LX : aload prog hh 26 (eltA c.pv 7 i) = some (reV c') := RS.agg PSh reC_len underlying26 rfl asz26 hc'
        have Vh := Keeps.var (Ch.wf N1) K V1
        have hdr : ps.drop i = p' :: ps.drop (i + 1) := dropAt hp'
        have hok' := hok.2.2.at hp'
        have wi : IntKind.i64.wrap ((i : Int) + 1) = ((i + 1 : Nat) : Int) := by rw [IntWalk.i64_in _ (by have := hok.2.1.1; omega)]; omega
        rw [hdr] at hR
        simp only [cntsM] at hR
        simp only [wk, wt, wl, ↓reduceIte, Nat.reduceEqDiff, Nat.reduceAdd, Nat.zero_add, not_false_eq_true, not_true_eq_false, pt, t1, t4, t3, LPV Vh, IX, LX]
        refine (refCount_all m p' c' hh D (by have := pat_lt (k := k) (r := r) (s := set) (nt := nt) (lo := lo) (hi := hi) hp'; omega) hok' Q).use ?_
        rintro _ h4 ⟨rfl, K4⟩
        simp only [wk, wt, wl, ↓reduceIte, Nat.reduceEqDiff, Nat.reduceAdd, Nat.zero_add, not_false_eq_true, not_true_eq_false, pt, t1, t4, t3, wrap_add, wi, intOf_int]
        exact ⟨⟨K.trans K4, i + 1, _, rfl, rfl, by omega, hR⟩, by omega⟩
      · have : i = ps.length := by omega
        rw [this, List.drop_length] at hR
        simp only [cntsM] at hR
        simp only [wk, wt, wl, ↓reduceIte, Nat.reduceEqDiff, Nat.reduceAdd, Nat.zero_add, not_false_eq_true, not_true_eq_false, t3]
        exact ⟨by simp only [cntM]; rw [(if_pos ck), ← hR], N1.trans K⟩
    · have d1 := decide_eq_false ck
      rw [if_neg ck] at hn0
      subst hn0
      simp only [wk, wt, wl, ↓reduceIte, Nat.reduceEqDiff, Nat.reduceAdd, Nat.zero_add, not_false_eq_true, not_true_eq_false, pt, aeff_box, boxRe P0.one1.1 P0.one1.2, LK V1, d1]
      refine W_loop (fun tm hh => Keeps (h.new 26 (reC c)) hh ∧ tm 1 = pt h.size ∧ ∃ (i : Nat) (n : Int), tm 4 = .int .i64 (i : Int) ∧ tm 3 = .int .i64 (IntKind.i64.wrap n) ∧ i ≤ l.length ∧ cntsM n (ps.drop i) = cntsM 0 ps)
        (fun tm _ => (l.length - intOf (tm 4)).toNat) ⟨Keeps.refl (Ch.wf N1), (by first | rfl | (simp only [wk, wt, wl, ↓reduceIte, Nat.reduceEqDiff, Nat.reduceAdd, Nat.zero_add, not_false_eq_true, not_true_eq_false]; done) | (simp only [wk, wt, wl, ↓reduceIte, Nat.reduceEqDiff, Nat.reduceAdd, Nat.zero_add, not_false_eq_true, not_true_eq_false]; rfl) | (simp only [wk, wt, wl, ↓reduceIte, Nat.reduceEqDiff, Nat.reduceAdd, Nat.zero_add, not_false_eq_true, not_true_eq_false, pt]; done) | (simp only [wk, wt, wl, ↓reduceIte, Nat.reduceEqDiff, Nat.reduceAdd, Nat.zero_add, not_false_eq_true, not_true_eq_false, pt]; rfl)), 0, 0, (by first | rfl | (simp only [wk, wt, wl, ↓reduceIte, Nat.reduceEqDiff, Nat.reduceAdd, Nat.zero_add, not_false_eq_true, not_true_eq_false]; done) | (simp only [wk, wt, wl, ↓reduceIte, Nat.reduceEqDiff, Nat.reduceAdd, Nat.zero_add, not_false_eq_true, not_true_eq_false]; rfl)), (by first | rfl | (simp only [wk, wt, wl, ↓reduceIte, Nat.reduceEqDiff, Nat.reduceAdd, Nat.zero_add, not_false_eq_true, not_true_eq_false]; done) | (simp only [wk, wt, wl, ↓reduceIte, Nat.reduceEqDiff, Nat.reduceAdd, Nat.zero_add, not_false_eq_true, not_true_eq_false]; rfl) | (simp only [wk, wt, wl, ↓reduceIte, Nat.reduceEqDiff, Nat.reduceAdd, Nat.zero_add, not_false_eq_true, not_true_eq_false, hw0]; done) | (simp only [wk, wt, wl, ↓reduceIte, Nat.reduceEqDiff, Nat.reduceAdd, Nat.zero_add, not_false_eq_true, not_true_eq_false, hw0]; rfl)), by omega, rfl⟩ ?_
      rintro tm hh ⟨K, t1, i, n, t4, t3, hi1, hR⟩
      have LNP := RS.len (RS.keeps PS (N1.trans K)) underlying24
      simp only [wk, wt, wl, ↓reduceIte, Nat.reduceEqDiff, Nat.reduceAdd, Nat.zero_add, not_false_eq_true, not_true_eq_false, pt, t1, t4, t3, LPV (Keeps.var (Ch.wf N1) K V1), LNP]
      refine condK_dec (fun hd => ?_) (fun hd => ?_)
      · have hi2 : i < l.length := by omega
        obtain ⟨p', hp'⟩ : ∃ p', ps[i]? = some p' := ⟨_, List.getElem?_eq_getElem (by omega)⟩
        have PRh := RePs.ch (N1.trans K) (fun _ e => e.elim) ps l PR
        have PSh : RS prog hh 7 reC c.pv l := RS.keeps PS (N1.trans K)
        obtain ⟨c', hc', Q⟩ := PRh.at hp'
        have IX := Rd.index PSh underlying24 asz26 (q := .i64) (i := (i : Int)) (by omega) (by omega)
        rw [Int.toNat_natCast] at IX
        have LX : aload prog hh 26 (eltA c.pv 7 i) = some (reV c') := RS.agg PSh reC_len underlying26 rfl asz26 hc'
        have Vh := Keeps.var (Ch.wf N1) K V1
        have hdr : ps.drop i = p' :: ps.drop (i + 1) := dropAt hp'
        have hok' := hok.2.2.at hp'
        have wi : IntKind.i64.wrap ((i : Int) + 1) = ((i + 1 : Nat) : Int) := by rw [IntWalk.i64_in _ (by have := hok.2.1.1; omega)]; omega
        rw [hdr] at hR
        simp only [cntsM] at hR
        simp only [wk, wt, wl, ↓reduceIte, Nat.reduceEqDiff, Nat.reduceAdd, Nat.zero_add, not_false_eq_true, not_true_eq_false, pt, t1, t4, t3, LPV Vh, IX, LX]
        refine (refCount_all m p' c' hh D (by have := pat_lt (k := k) (r := r) (s := set) (nt := nt) (lo := lo) (hi := hi) hp'; omega) hok' Q).use ?_
        rintro _ h4 ⟨rfl, K4⟩
        simp only [wk, wt, wl, ↓reduceIte, Nat.reduceEqDiff, Nat.reduceAdd, Nat.zero_add, not_false_eq_true, not_true_eq_false, pt, t1, t4, t3, wrap_add, wi, intOf_int]
        exact ⟨⟨K.trans K4, i + 1, _, rfl, rfl, by omega, hR⟩, by omega⟩
      · have : i = ps.length := by omega
        rw [this, List.drop_length] at hR
        simp only [cntsM] at hR
        simp only [wk, wt, wl, ↓reduceIte, Nat.reduceEqDiff, Nat.reduceAdd, Nat.zero_add, not_false_eq_true, not_true_eq_false, t3]
        exact ⟨by simp only [cntM]; rw [(if_neg ck), ← hR], N1.trans K⟩
end Go.Proofs.Ytnnkcbkenofhmaa.Am
end
section
/- Patterns in plain terms: two patterns with a bar between them; no program in sight. -/
set_option linter.unusedSimpArgs false
set_option linter.unusedVariables false
namespace Go.Proofs.Ytnnkcbkenofhmaa.Am
open Go Go.RowKit Go.Proofs.Try
/-- What stands behind a pattern: a bar, and another one. -/
abbrev barS (b : List Int) : List Int := 92 :: 124 :: b
theorem findM_app {S : List Int} : ∀ {l : List Int} {i : Nat}, findM l = some i → findM (l ++ S) = some i ∧ i < l.length
  | [], i, h => by cases h
  | x :: l, i, h => by
    simp only [findM, List.cons_append] at h ⊢
    split at h
    · rename_i c
      cases h
      rw [if_pos c]
      exact ⟨rfl, by simp⟩
    · rename_i c
      rw [if_neg c]
      cases hf : findM l with
      | none => rw [hf] at h; cases h
      | some j =>
        rw [hf] at h
        have := findM_app (S := S) hf
        rw [this.1]
        simp only [Option.map_some, Option.some.injEq] at h ⊢
        subst h
        exact ⟨rfl, by simp; omega⟩
def setB (nt : Bool) (l : List Int) : Except Int (Pat × List Int) :=
  match findM (l.drop 1) with
  | none => .error 10
  | some i => match spansM (i + 2) [] (l.take (i + 1)) with
    | .error e => .error e
    | .ok s => .ok (pS s nt, l.drop (i + 2))
theorem setM_eq {x : Int} {l : List Int} : setM (x :: l) = if x = 94 then setB true l else setB false (x :: l) := by
  by_cases h : x = 94
  · subst h; rfl
  · rw [if_neg h]
    have : decide ((x :: l).head? = some 94) = false := by simp [h]
    unfold setM
    rw [this]
    rfl
theorem setB_app {S l t : List Int} {p : Pat} {nt : Bool} (h : setB nt l = .ok (p, t)) : setB nt (l ++ S) = .ok (p, t ++ S) := by
  cases l with
  | nil => cases h
  | cons x l =>
    unfold setB at h ⊢
    rw [List.cons_append]
    simp only [List.drop_succ_cons, List.drop_zero] at h ⊢
    cases hf : findM l with
    | none => rw [hf] at h; cases h
    | some i =>
      rw [hf] at h
      have F := findM_app (S := S) hf
      rw [F.1]
      simp only [List.take_succ_cons] at h ⊢
      rw [List.take_append_of_le_length (by omega)]
      cases hs : spansM (i + 2) [] (x :: l.take i) with
      | error e => rw [hs] at h; cases h
      | ok s =>
        rw [hs] at h
        cases h
        simp only
        rw [List.drop_append_of_le_length (by omega)]
theorem setM_app {S l t : List Int} {p : Pat} (h : setM l = .ok (p, t)) : setM (l ++ S) = .ok (p, t ++ S) := by
  cases l with
  | nil => cases h
  | cons x l =>
    rw [List.cons_append]
    rw [setM_eq] at h ⊢
    split at h
    · rename_i c; rw [if_pos c]; exact setB_app h
    · rename_i c; rw [if_neg c]; exact setB_app h
theorem digM_app {b : List Int} : ∀ (l : List Int) (n : Int) (k : Bool), digM n k (l ++ barS b) = ((digM n k l).1, (digM n k l).2.1 ++ barS b, (digM n k l).2.2)
  | [], n, k => rfl
  | x :: l, n, k => by
    simp only [digM, List.cons_append]
    split
    · exact digM_app l _ _
    · rfl
theorem hiM_eq {lo x : Int} {l : List Int} : hiM lo (x :: l) = if x = 44 then (if (digM 0 false l).2.2 = true then (digM 0 false l).1 else -1, (digM 0 false l).2.1) else (lo, x :: l) := by
  by_cases h : x = 44
  · subst h; rfl
  · rw [if_neg h]
    unfold hiM
    rw [if_neg (show ¬ (x :: l).head? = some 44 by simp [h])]
theorem hiM_app {b : List Int} {lo : Int} (l : List Int) : hiM lo (l ++ barS b) = ((hiM lo l).1, (hiM lo l).2 ++ barS b) := by
  cases l with
  | nil => rfl
  | cons x l =>
    rw [List.cons_append, hiM_eq, hiM_eq, digM_app]
    by_cases c : x = 44
    · rw [if_pos c, if_pos c]
    · rw [if_neg c, if_neg c]; rfl
theorem endM_app {S l t : List Int} {lo hi a c : Int} (h : endM lo hi l = .ok (a, c, t)) : endM lo hi (l ++ S) = .ok (a, c, t ++ S) := by
  unfold endM at h
  split at h
  · cases h; rfl
  · cases h
theorem timesM_app {b l t : List Int} {a c : Int} (h : timesM l = .ok (a, c, t)) : timesM (l ++ barS b) = .ok (a, c, t ++ barS b) := by
  unfold timesM at h ⊢
  rw [digM_app]
  simp only [hiM_app]
  split at h
  · cases h
  · rename_i c1
    rw [if_neg c1]
    split at h
    · cases h
    · rename_i c2
      rw [if_neg c2]
      exact endM_app h
theorem peek_app {l S : List Int} (h : 2 ≤ l.length) : peekM (l ++ S) = peekM l := by
  rcases l with _ | ⟨a, _ | ⟨c, l⟩⟩
  · simp at h
  · simp at h
  · rfl
theorem drop_app {l S : List Int} {k : Nat} (h : k ≤ l.length) : (l ++ S).drop k = l.drop k ++ S := List.drop_append_of_le_length h
theorem ended_app {l b : List Int} : endedM (l ++ barS b) = endedM l := by
  rcases l with _ | ⟨a, _ | ⟨c, l⟩⟩
  · rfl
  · show decide (a = 92 ∧ ((92 : Int) = 124 ∨ (92 : Int) = 41)) = false
    simp
  · rfl
theorem bar_app {l b : List Int} (h : l ≠ []) : barM (l ++ barS b) = barM l := by
  rcases l with _ | ⟨a, _ | ⟨c, l⟩⟩
  · exact absurd rfl h
  · show decide (a = 92 ∧ ((92 : Int) = 124)) = false
    simp
  · rfl
theorem repM_app {l b : List Int} {p : Pat} {o : Option (Pat × List Int)} (h : repM p l = .ok o) : repM p (l ++ barS b) = .ok (o.map fun x => (x.1, x.2 ++ barS b)) := by
  by_cases hl : 2 ≤ l.length
  · unfold repM at h ⊢
    rw [peek_app hl]
    obtain ⟨x, y, n, hp⟩ : ∃ x y n, peekM l = (x, y, n) := ⟨_, _, _, rfl⟩
    rw [hp] at h ⊢
    simp only at h ⊢
    rw [drop_app (by omega), drop_app (by omega)]
    split at h
    · rename_i c; rw [if_pos c]; cases h; rfl
    · rename_i c
      rw [if_neg c]
      split at h
      · rename_i c2; rw [if_pos c2]; cases h; rfl
      · rename_i c2
        rw [if_neg c2]
        split at h
        · cases h
        · rename_i lo hi t ht
          cases h
          rw [timesM_app ht]
          rfl
  · rcases l with _ | ⟨a, _ | ⟨c, l⟩⟩
    · cases h; rfl
    · by_cases ha : a = 42
      · subst ha; cases h; rfl
      · have e : repM p [a] = .ok none := by
          simp [repM, peekM, ha]
        rw [e] at h
        cases h
        by_cases h9 : a = 92
        · subst h9; rfl
        · show repM p (a :: barS b) = _
          unfold repM
          rw [peek_one h9]
          simp [ha]
    · simp at hl
theorem repsM_app {b : List Int} : ∀ (n m : Nat) {p q : Pat} {l t : List Int}, n ≤ m → repsM n p l = .ok (q, t) → repsM m p (l ++ barS b) = .ok (q, t ++ barS b)
  | 0, m, p, q, l, t, _, h => by cases h
  | n + 1, m, p, q, l, t, hm, h => by
    obtain ⟨m, rfl⟩ : ∃ k, m = k + 1 := ⟨m - 1, by omega⟩
    simp only [repsM] at h ⊢
    split at h
    · rename_i c; rw [if_pos c]; cases h; rfl
    · rename_i c
      rw [if_neg c]
      split at h
      · cases h
      · rename_i c2; rw [repM_app c2]; cases h; rfl
      · rename_i q2 t2 c2; rw [repM_app c2]; exact repsM_app n m (by omega) h
/-- A reading of a group goes on alike where a bar and more stand behind. -/
def GX (b : List Int) (grp : List Int → Int → PRes) : Prop := ∀ l g p t g', grp l g = .ok (p, t, g') → grp (l ++ barS b) g = .ok (p, t ++ barS b, g')
theorem escM_app {b : List Int} {grp : List Int → Int → PRes} (G : GX b grp) {y : Int} {l t : List Int} {g g' : Int} {p : Pat} (hl : 2 ≤ l.length) (h : escM grp y l g = .ok (p, t, g')) : escM grp y (l ++ barS b) g = .ok (p, t ++ barS b, g') := by
  unfold escM at h ⊢
  rw [drop_app hl]
  split at h
  · cases h
  · rename_i c; rw [if_neg c]
    split at h
    · cases h
    · rename_i c; rw [if_neg c]
      split at h
      · rename_i c; rw [if_pos c]; cases h; rfl
      · rename_i c; rw [if_neg c]
        split at h
        · rename_i c; rw [if_pos c]; cases h; rfl
        · rename_i c; rw [if_neg c]
          split at h
          · rename_i c; rw [if_pos c]; exact G _ _ _ _ _ h
          · rename_i c; rw [if_neg c]; cases h; rfl
theorem atomM_app {b : List Int} {grp : List Int → Int → PRes} (G : GX b grp) {f : Bool} {l t : List Int} {g g' : Int} {p : Pat} (hl : 1 ≤ l.length) (h : atomM grp f l g = .ok (p, t, g')) : atomM grp f (l ++ barS b) g = .ok (p, t ++ barS b, g') := by
  have hpk : peekM (l ++ barS b) = peekM l := by
    rcases l with _ | ⟨a, _ | ⟨c, l⟩⟩
    · simp at hl
    · by_cases h9 : a = 92
      · subst h9; cases h
      · exact (peek_one h9).trans rfl
    · rfl
  unfold atomM at h ⊢
  rw [hpk]
  obtain ⟨x, y, n, hp⟩ : ∃ x y n, peekM l = (x, y, n) := ⟨_, _, _, rfl⟩
  rw [hp] at h ⊢
  simp only at h ⊢
  rw [drop_app hl, ended_app]
  split at h
  · rename_i c; rw [if_pos c]
    split at h
    · cases h
    · rename_i hs; cases h; rw [setM_app hs]
  · rename_i c; rw [if_neg c]
    split at h
    · rename_i c; rw [if_pos c]; subst c; exact escM_app G (peek_lt hp) h
    · rename_i c; rw [if_neg c]
      split at h
      · cases h
      · rename_i c; rw [if_neg c]
        split at h
        · rename_i c; rw [if_pos c]; cases h; rfl
        · rename_i c; rw [if_neg c]
          split at h
          · rename_i c; rw [if_pos c]; cases h; rfl
          · rename_i c; rw [if_neg c]
            split at h
            · rename_i c; rw [if_pos c]; cases h; rfl
            · rename_i c; rw [if_neg c]; cases h; rfl
theorem pieM_app {b : List Int} {grp : List Int → Int → PRes} (G : GX b grp) : ∀ (n m : Nat) {acc : List Pat} {l t : List Int} {g g' : Int} {p : Pat}, n ≤ m → pieM grp n acc l g = .ok (p, t, g') → pieM grp m acc (l ++ barS b) g = .ok (p, t ++ barS b, g')
  | 0, m, acc, l, t, g, g', p, _, h => by cases h
  | n + 1, m, acc, l, t, g, g', p, hm, h => by
    obtain ⟨m, rfl⟩ : ∃ k, m = k + 1 := ⟨m - 1, by omega⟩
    simp only [pieM] at h ⊢
    rw [ended_app]
    split at h
    · rename_i c; rw [if_pos c]; cases h; rfl
    · rename_i c
      rw [if_neg c]
      split at h
      · cases h
      · rename_i q u g1 ha
        rw [atomM_app G (ended_ne (by simpa using c)) ha]
        simp only
        split at h
        · cases h
        · rename_i q2 u2 hr
          rw [repsM_app _ ((u ++ barS b).length + 1) (by simp) hr]
          exact pieM_app G n m (by omega) h
/-- Alternatives, one behind the other. -/
inductive AltsR (grp : List Int → Int → PRes) : List Pat → List Int → Int → List Pat → List Int → Int → Prop where
  | done {acc l g} : barM l = false → AltsR grp acc l g acc l g
  | more {acc l g p t g1 ps u g2} : barM l = true → pieM grp ((l.drop 2).length + 1) [] (l.drop 2) g = .ok (p, t, g1) → AltsR grp (acc ++ [p]) t g1 ps u g2 → AltsR grp acc l g ps u g2
theorem altsR_of {grp : List Int → Int → PRes} : ∀ (n : Nat) {acc : List Pat} {l t : List Int} {g g' : Int} {p : Pat}, altsM grp n acc l g = .ok (p, t, g') → ∃ ps, AltsR grp acc l g ps t g' ∧ p = pAlt ps
  | 0, acc, l, t, g, g', p, h => by cases h
  | n + 1, acc, l, t, g, g', p, h => by
    simp only [altsM] at h
    split at h
    · rename_i c
      split at h
      · cases h
      · rename_i q u g1 hp
        obtain ⟨ps, R, e⟩ := altsR_of n h
        exact ⟨ps, .more c hp R, e⟩
    · rename_i c
      cases h
      exact ⟨acc, .done (by simpa using c), rfl⟩
theorem of_altsR {grp : List Int → Int → PRes} (G : GL grp) {acc ps : List Pat} {l t : List Int} {g g' : Int} (R : AltsR grp acc l g ps t g') : ∀ n, l.length < n → altsM grp n acc l g = .ok (pAlt ps, t, g') := by
  induction R with
  | done c =>
    intro n hn
    obtain ⟨n, rfl⟩ : ∃ k, n = k + 1 := ⟨n - 1, by omega⟩
    simp only [altsM]
    rw [if_neg (by simp [c])]
  | more c hp _ ih =>
    intro n hn
    obtain ⟨n, rfl⟩ : ∃ k, n = k + 1 := ⟨n - 1, by omega⟩
    have h1 := (pieM_len G _ hp).1
    have hb := bar_lt c
    rw [List.length_drop] at h1
    simp only [altsM]
    rw [if_pos c, hp]
    exact ih n (by omega)
theorem AltsR.app {b : List Int} {grp : List Int → Int → PRes} (G : GX b grp) {acc ps : List Pat} {l t : List Int} {g g' : Int} (R : AltsR grp acc l g ps t g') (ht : t ≠ []) : AltsR grp acc (l ++ barS b) g ps (t ++ barS b) g' := by
  induction R with
  | done c => exact .done (by rw [bar_app ht]; exact c)
  | @more acc l g p t g1 ps u g2 c hp _ ih =>
    have hb := bar_lt c
    refine .more (by rw [bar_app (by intro e; subst e; simp at hb)]; exact c) ?_ (ih ht)
    rw [drop_app hb]
    exact pieM_app G _ _ (by simp) hp
theorem AltsR.top {b : List Int} {grp : List Int → Int → PRes} (G : GX b grp) {acc ps qs : List Pat} {l t u : List Int} {g g' g2 : Int} (R : AltsR grp acc l g ps t g') (ht : t = []) (Q : AltsR grp ps (barS b) g' qs u g2) : AltsR grp acc (l ++ barS b) g qs u g2 := by
  induction R with
  | done c => subst ht; exact Q
  | @more acc l g p t g1 ps u g2 c hp _ ih =>
    have hb := bar_lt c
    refine .more (by rw [bar_app (by intro e; subst e; simp at hb)]; exact c) ?_ (ih ht Q)
    rw [drop_app hb]
    exact pieM_app G _ _ (by simp) hp
theorem altM_of {grp : List Int → Int → PRes} {l t : List Int} {g g' : Int} {p : Pat} (h : altM grp l g = .ok (p, t, g')) : ∃ q u g1 ps, pieM grp (l.length + 1) [] l g = .ok (q, u, g1) ∧ AltsR grp [q] u g1 ps t g' ∧ p = pAlt ps := by
  unfold altM at h
  split at h
  · cases h
  · rename_i q u g1 hp
    obtain ⟨ps, R, e⟩ := altsR_of _ h
    exact ⟨q, u, g1, ps, hp, R, e⟩
theorem altM_mk {grp : List Int → Int → PRes} (G : GL grp) {l u t : List Int} {g g1 g' : Int} {q : Pat} {ps : List Pat} (hp : pieM grp (l.length + 1) [] l g = .ok (q, u, g1)) (R : AltsR grp [q] u g1 ps t g') : altM grp l g = .ok (pAlt ps, t, g') := by
  unfold altM
  rw [hp]
  exact of_altsR G R _ (by omega)
theorem altM_app {b : List Int} {grp : List Int → Int → PRes} (G : GX b grp) (L : GL grp) {l t : List Int} {g g' : Int} {p : Pat} (h : altM grp l g = .ok (p, t, g')) (ht : t ≠ []) : altM grp (l ++ barS b) g = .ok (p, t ++ barS b, g') := by
  obtain ⟨q, u, g1, ps, hp, R, rfl⟩ := altM_of h
  exact altM_mk L (pieM_app G _ _ (by simp) hp) (R.app G ht)
theorem grpM_GX {b : List Int} : ∀ k, GX b (grpM k)
  | 0 => fun l g p t g' h => by cases h
  | k + 1 => fun l g p t g' h => by
    simp only [grpM] at h ⊢
    split at h
    · cases h
    · rename_i q u g1 ha
      have C := altM_len (grpM_GL k) ha
      split at h
      · cases h
      · rename_i hu
        cases h
        obtain ⟨v, rfl⟩ := closes C.2.1 C.2.2 hu
        rw [altM_app (grpM_GX k) (grpM_GL k) ha (by simp)]
        simp
end Go.Proofs.Ytnnkcbkenofhmaa.Am
end
section
/- Patterns in plain terms: groups counted on; two patterns with a bar between them, read as both. -/
set_option linter.unusedSimpArgs false
set_option linter.unusedVariables false
namespace Go.Proofs.Ytnnkcbkenofhmaa.Am
open Go Go.RowKit Go.Proofs.Try
mutual
/-- The groups of a pattern, counted on by so many. -/
def shP (d : Int) : Pat → Pat
  | .mk k r s nt lo hi ps => .mk k r s nt (if k = 11 then lo + d else lo) hi (shPs d ps)
def shPs (d : Int) : List Pat → List Pat
  | [] => []
  | p :: ps => shP d p :: shPs d ps
end
theorem shPs_map {d : Int} : ∀ (l : List Pat), shPs d l = l.map (shP d)
  | [] => rfl
  | p :: l => by simp only [shPs, List.map_cons, shPs_map l]
theorem sh_kind {d : Int} {p : Pat} : (shP d p).kind = p.kind := by cases p; rfl
theorem sh_star {d lo hi : Int} {p : Pat} : shP d (pStar lo hi p) = pStar lo hi (shP d p) := rfl
theorem sh_g {d n : Int} {p : Pat} : shP d (pG n p) = pG (n + d) (shP d p) := rfl
theorem sh_cat {d : Int} : ∀ {l : List Pat}, shP d (pCat l) = pCat (l.map (shP d))
  | [] => rfl
  | [x] => rfl
  | x :: y :: l => by
    show Pat.mk 8 0 [] false 0 0 (shPs d (x :: y :: l)) = _
    rw [shPs_map]; rfl
theorem sh_alt {d : Int} : ∀ {l : List Pat}, shP d (pAlt l) = pAlt (l.map (shP d))
  | [] => rfl
  | [x] => rfl
  | x :: y :: l => by
    show Pat.mk 9 0 [] false 0 0 (shPs d (x :: y :: l)) = _
    rw [shPs_map]; rfl
theorem repM_sh {d : Int} {l : List Int} {p : Pat} {o : Option (Pat × List Int)} (h : repM p l = .ok o) : repM (shP d p) l = .ok (o.map fun x => (shP d x.1, x.2)) := by
  unfold repM at h ⊢
  obtain ⟨x, y, n, hp⟩ : ∃ x y n, peekM l = (x, y, n) := ⟨_, _, _, rfl⟩
  rw [hp] at h ⊢
  simp only at h ⊢
  split at h
  · rename_i c; rw [if_pos c]; cases h; rfl
  · rename_i c
    rw [if_neg c]
    split at h
    · rename_i c2; rw [if_pos c2]; cases h; rfl
    · rename_i c2
      rw [if_neg c2]
      split at h
      · cases h
      · rename_i lo hi t ht
        cases h
        rfl
theorem repsM_sh {d : Int} : ∀ (n : Nat) {p q : Pat} {l t : List Int}, repsM n p l = .ok (q, t) → repsM n (shP d p) l = .ok (shP d q, t)
  | 0, p, q, l, t, h => by cases h
  | n + 1, p, q, l, t, h => by
    simp only [repsM] at h ⊢
    rw [sh_kind]
    split at h
    · rename_i c; rw [if_pos c]; cases h; rfl
    · rename_i c
      rw [if_neg c]
      split at h
      · cases h
      · rename_i c2; rw [repM_sh c2]; cases h; rfl
      · rename_i q2 t2 c2; rw [repM_sh c2]; exact repsM_sh n h
def GSh (d : Int) (grp : List Int → Int → PRes) : Prop := ∀ l g p t g', grp l g = .ok (p, t, g') → grp l (g + d) = .ok (shP d p, t, g' + d)
theorem setM_leaf {d : Int} {l t : List Int} {p : Pat} (h : setM l = .ok (p, t)) : shP d p = p ∧ p.kind = 3 := by
  unfold setM at h
  simp only at h
  split at h
  · cases h
  · split at h
    · cases h
    · cases h; exact ⟨rfl, rfl⟩
theorem escM_sh {d : Int} {grp : List Int → Int → PRes} (G : GSh d grp) {y : Int} {l t : List Int} {g g' : Int} {p : Pat} (h : escM grp y l g = .ok (p, t, g')) : escM grp y l (g + d) = .ok (shP d p, t, g' + d) := by
  unfold escM at h ⊢
  split at h
  · cases h
  · rename_i c; rw [if_neg c]
    split at h
    · cases h
    · rename_i c; rw [if_neg c]
      split at h
      · rename_i c; rw [if_pos c]; cases h; rfl
      · rename_i c; rw [if_neg c]
        split at h
        · rename_i c; rw [if_pos c]; cases h; rfl
        · rename_i c; rw [if_neg c]
          split at h
          · rename_i c; rw [if_pos c]; exact G _ _ _ _ _ h
          · rename_i c; rw [if_neg c]; cases h; rfl
theorem atomM_sh {d : Int} {grp : List Int → Int → PRes} (G : GSh d grp) {f : Bool} {l t : List Int} {g g' : Int} {p : Pat} (h : atomM grp f l g = .ok (p, t, g')) : atomM grp f l (g + d) = .ok (shP d p, t, g' + d) := by
  unfold atomM at h ⊢
  obtain ⟨x, y, n, hp⟩ : ∃ x y n, peekM l = (x, y, n) := ⟨_, _, _, rfl⟩
  rw [hp] at h ⊢
  simp only at h ⊢
  split at h
  · rename_i c; rw [if_pos c]
    split at h
    · cases h
    · rename_i hs; cases h; rw [(setM_leaf (d := d) hs).1]
  · rename_i c; rw [if_neg c]
    split at h
    · rename_i c; rw [if_pos c]; exact escM_sh G h
    · rename_i c; rw [if_neg c]
      split at h
      · cases h
      · rename_i c; rw [if_neg c]
        split at h
        · rename_i c; rw [if_pos c]; cases h; rfl
        · rename_i c; rw [if_neg c]
          split at h
          · rename_i c; rw [if_pos c]; cases h; rfl
          · rename_i c; rw [if_neg c]
            split at h
            · rename_i c; rw [if_pos c]; cases h; rfl
            · rename_i c; rw [if_neg c]; cases h; rfl
theorem isEmpty_map {α β : Type} {f : α → β} {l : List α} : (l.map f).isEmpty = l.isEmpty := by cases l <;> rfl
theorem pieM_sh {d : Int} {grp : List Int → Int → PRes} (G : GSh d grp) : ∀ (n : Nat) {acc : List Pat} {l t : List Int} {g g' : Int} {p : Pat}, pieM grp n acc l g = .ok (p, t, g') → pieM grp n (acc.map (shP d)) l (g + d) = .ok (shP d p, t, g' + d)
  | 0, acc, l, t, g, g', p, h => by cases h
  | n + 1, acc, l, t, g, g', p, h => by
    simp only [pieM] at h ⊢
    split at h
    · rename_i c; rw [if_pos c]; cases h; rw [sh_cat]
    · rename_i c
      rw [if_neg c]
      split at h
      · cases h
      · rename_i q u g1 ha
        rw [isEmpty_map, atomM_sh G ha]
        simp only
        split at h
        · cases h
        · rename_i q2 u2 hr
          rw [repsM_sh _ hr]
          have := pieM_sh G n h
          rw [List.map_append] at this
          exact this
theorem AltsR.sh {d : Int} {grp : List Int → Int → PRes} (G : GSh d grp) {acc ps : List Pat} {l t : List Int} {g g' : Int} (R : AltsR grp acc l g ps t g') : AltsR grp (acc.map (shP d)) l (g + d) (ps.map (shP d)) t (g' + d) := by
  induction R with
  | done c => exact .done c
  | more c hp _ ih =>
    refine .more c (pieM_sh G _ hp) ?_
    rw [List.map_append] at ih
    exact ih
theorem altM_sh {d : Int} {grp : List Int → Int → PRes} (G : GSh d grp) (L : GL grp) {l t : List Int} {g g' : Int} {p : Pat} (h : altM grp l g = .ok (p, t, g')) : altM grp l (g + d) = .ok (shP d p, t, g' + d) := by
  obtain ⟨q, u, g1, ps, hp, R, rfl⟩ := altM_of h
  rw [sh_alt]
  exact altM_mk L (pieM_sh G _ hp) (R.sh G)
theorem grpM_GSh {d : Int} : ∀ k, GSh d (grpM k)
  | 0 => fun l g p t g' h => by cases h
  | k + 1 => fun l g p t g' h => by
    simp only [grpM] at h ⊢
    split at h
    · cases h
    · rename_i q u g1 ha
      split at h
      · cases h
      · rename_i hu
        cases h
        have := altM_sh (d := d) (grpM_GSh k) (grpM_GL k) ha
        rw [show g + d + 1 = g + 1 + d by omega, this]
        simp only
        rw [if_neg hu, sh_g]
/- What is put in front of the bar: its alternatives are no alternatives themselves. -/
theorem repM_kind {l t : List Int} {p q : Pat} (h : repM p l = .ok (some (q, t))) : q.kind = 10 := by
  unfold repM at h
  obtain ⟨x, y, n, hp⟩ : ∃ x y n, peekM l = (x, y, n) := ⟨_, _, _, rfl⟩
  rw [hp] at h
  simp only at h
  split at h
  · cases h; rfl
  · split at h
    · cases h
    · split at h
      · cases h
      · cases h; rfl
theorem repsM_kind : ∀ (n : Nat) {p q : Pat} {l t : List Int}, p.kind ≠ 9 → repsM n p l = .ok (q, t) → q.kind ≠ 9
  | 0, p, q, l, t, _, h => by cases h
  | n + 1, p, q, l, t, hk, h => by
    simp only [repsM] at h
    split at h
    · cases h; exact hk
    · split at h
      · cases h
      · cases h; exact hk
      · rename_i c2
        exact repsM_kind n (by rw [repM_kind c2]; decide) h
def GK (grp : List Int → Int → PRes) : Prop := ∀ l g p t g', grp l g = .ok (p, t, g') → p.kind ≠ 9
theorem escM_kind {grp : List Int → Int → PRes} (G : GK grp) {y : Int} {l t : List Int} {g g' : Int} {p : Pat} (h : escM grp y l g = .ok (p, t, g')) : p.kind ≠ 9 := by
  unfold escM at h
  split at h
  · cases h
  · split at h
    · cases h
    · split at h
      · cases h; exact (by decide : (6 : Int) ≠ 9)
      · split at h
        · cases h; exact (by decide : (7 : Int) ≠ 9)
        · split at h
          · exact G _ _ _ _ _ h
          · cases h; exact (by decide : (1 : Int) ≠ 9)
theorem atomM_kind {grp : List Int → Int → PRes} (G : GK grp) {f : Bool} {l t : List Int} {g g' : Int} {p : Pat} (h : atomM grp f l g = .ok (p, t, g')) : p.kind ≠ 9 := by
  unfold atomM at h
  obtain ⟨x, y, n, hp⟩ : ∃ x y n, peekM l = (x, y, n) := ⟨_, _, _, rfl⟩
  rw [hp] at h
  simp only at h
  split at h
  · split at h
    · cases h
    · rename_i hs; cases h; rw [(setM_leaf (d := 0) hs).2]; decide
  · split at h
    · exact escM_kind G h
    · split at h
      · cases h
      · split at h
        · cases h; exact (by decide : (2 : Int) ≠ 9)
        · split at h
          · cases h; exact (by decide : (4 : Int) ≠ 9)
          · split at h
            · cases h; exact (by decide : (5 : Int) ≠ 9)
            · cases h; exact (by decide : (1 : Int) ≠ 9)
theorem pieM_kind {grp : List Int → Int → PRes} (G : GK grp) : ∀ (n : Nat) {acc : List Pat} {l t : List Int} {g g' : Int} {p : Pat}, (∀ q, q ∈ acc → q.kind ≠ 9) → pieM grp n acc l g = .ok (p, t, g') → p.kind ≠ 9
  | 0, acc, l, t, g, g', p, _, h => by cases h
  | n + 1, acc, l, t, g, g', p, A, h => by
    simp only [pieM] at h
    split at h
    · cases h
      match acc, A with
      | [], _ => exact (by decide : (0 : Int) ≠ 9)
      | [x], A => exact A x (by simp)
      | x :: y :: l, _ => exact (by decide : (8 : Int) ≠ 9)
    · split at h
      · cases h
      · rename_i q u g1 ha
        split at h
        · cases h
        · rename_i q2 u2 hr
          refine pieM_kind G n (fun x hx => ?_) h
          rcases List.mem_append.mp hx with e | e
          · exact A x e
          · rw [List.mem_singleton.mp e]
            exact repsM_kind _ (atomM_kind G ha) hr
theorem grpM_GK : ∀ k, GK (grpM k)
  | 0 => fun l g p t g' h => by cases h
  | k + 1 => fun l g p t g' h => by
    simp only [grpM] at h
    split at h
    · cases h
    · split at h
      · cases h
      · cases h; exact (by decide : (11 : Int) ≠ 9)
/- No reading ends for want of steps. -/
theorem spansM_err : ∀ (n : Nat) {acc : List (Int × Int)} {l : List Int} {e : Int}, l.length < n → spansM n acc l = .error e → e ≠ 0
  | 0, acc, l, e, hn, _ => by omega
  | n + 1, acc, l, e, hn, h => by
    unfold spansM at h
    split at h
    · cases h
    · split at h
      · cases h; decide
      · exact spansM_err n (by simp at hn ⊢; omega) h
    · exact spansM_err n (by simp at hn ⊢; omega) h
theorem setM_err {l : List Int} {e : Int} (h : setM l = .error e) : e ≠ 0 := by
  unfold setM at h
  simp only at h
  split at h
  · cases h; decide
  · split at h
    · rename_i hs
      cases h
      exact spansM_err _ (by rw [List.length_take]; omega) hs
    · cases h
theorem timesM_err {l : List Int} {e : Int} (h : timesM l = .error e) : e ≠ 0 := by
  unfold timesM at h
  split at h
  · cases h; decide
  · split at h
    · cases h; decide
    · unfold endM at h
      split at h
      · cases h
      · cases h; decide
theorem repM_err {l : List Int} {p : Pat} {e : Int} (h : repM p l = .error e) : e ≠ 0 := by
  unfold repM at h
  obtain ⟨x, y, n, hp⟩ : ∃ x y n, peekM l = (x, y, n) := ⟨_, _, _, rfl⟩
  rw [hp] at h
  simp only at h
  split at h
  · cases h
  · split at h
    · cases h
    · split at h
      · rename_i ht; cases h; exact timesM_err ht
      · cases h
theorem repsM_err0 : ∀ (n : Nat) {p : Pat} {l : List Int} {e : Int}, l.length < n → repsM n p l = .error e → e ≠ 0
  | 0, p, l, e, hn, _ => by omega
  | n + 1, p, l, e, hn, h => by
    simp only [repsM] at h
    split at h
    · cases h
    · split at h
      · rename_i c; cases h; exact repM_err c
      · cases h
      · rename_i c
        have := repM_len c
        exact repsM_err0 n (by omega) h
def GE (grp : List Int → Int → PRes) : Prop := ∀ l g e, grp l g = .error e → e ≠ 0
theorem escM_err {grp : List Int → Int → PRes} (G : GE grp) {y : Int} {l : List Int} {g e : Int} (h : escM grp y l g = .error e) : e ≠ 0 := by
  unfold escM at h
  split at h
  · cases h; decide
  · split at h
    · cases h; decide
    · split at h
      · cases h
      · split at h
        · cases h
        · split at h
          · exact G _ _ _ h
          · cases h
theorem atomM_err {grp : List Int → Int → PRes} (G : GE grp) {f : Bool} {l : List Int} {g e : Int} (h : atomM grp f l g = .error e) : e ≠ 0 := by
  unfold atomM at h
  obtain ⟨x, y, n, hp⟩ : ∃ x y n, peekM l = (x, y, n) := ⟨_, _, _, rfl⟩
  rw [hp] at h
  simp only at h
  split at h
  · split at h
    · rename_i hs; cases h; exact setM_err hs
    · cases h
  · split at h
    · exact escM_err G h
    · split at h
      · cases h; decide
      · split at h
        · cases h
        · split at h
          · cases h
          · split at h
            · cases h
            · cases h
theorem pieM_err {grp : List Int → Int → PRes} (G : GE grp) (L : GL grp) : ∀ (n : Nat) {acc : List Pat} {l : List Int} {g e : Int}, l.length < n → pieM grp n acc l g = .error e → e ≠ 0
  | 0, acc, l, g, e, hn, _ => by omega
  | n + 1, acc, l, g, e, hn, h => by
    simp only [pieM] at h
    split at h
    · cases h
    · rename_i c
      split at h
      · rename_i ha; cases h; exact atomM_err G ha
      · rename_i q u g1 ha
        have h1 := atomM_len L (ended_ne (by simpa using c)) ha
        split at h
        · rename_i hr; cases h; exact repsM_err0 _ (by omega) hr
        · rename_i q2 u2 hr
          have h2 := repsM_len _ hr
          exact pieM_err G L n (by omega) h
theorem altsM_err {grp : List Int → Int → PRes} (G : GE grp) (L : GL grp) : ∀ (n : Nat) {acc : List Pat} {l : List Int} {g e : Int}, l.length < n → altsM grp n acc l g = .error e → e ≠ 0
  | 0, acc, l, g, e, hn, _ => by omega
  | n + 1, acc, l, g, e, hn, h => by
    simp only [altsM] at h
    split at h
    · rename_i c
      have hb := bar_lt c
      split at h
      · rename_i hp; cases h; exact pieM_err G L _ (by omega) hp
      · rename_i q u g1 hp
        have h1 := (pieM_len L _ hp).1
        rw [List.length_drop] at h1
        exact altsM_err G L n (by omega) h
    · cases h
theorem altM_err0 {grp : List Int → Int → PRes} (G : GE grp) (L : GL grp) {l : List Int} {g e : Int} (h : altM grp l g = .error e) : e ≠ 0 := by
  unfold altM at h
  split at h
  · rename_i hp; cases h; exact pieM_err G L _ (by omega) hp
  · exact altsM_err G L _ (by omega) h
theorem grpM_GE : ∀ k, GE (grpM k)
  | 0 => fun l g e h => by cases h; decide
  | k + 1 => fun l g e h => by
    simp only [grpM] at h
    split at h
    · rename_i ha; cases h; exact altM_err0 (grpM_GE k) (grpM_GL k) ha
    · split at h
      · cases h; decide
      · cases h
theorem parseM_err {l : List Int} {e : Int} (h : parseM l = .error e) : e ≠ 0 := by
  unfold parseM at h
  split at h
  · rename_i ha; cases h; exact altM_err0 (grpM_GE 16) (grpM_GL 16) ha
  · split at h
    · cases h; decide
    · split at h
      · cases h; decide
      · cases h
/-- A pattern that is read is read to its end. -/
theorem parseR_of {l : List Int} {p : Pat} (h : parseR l = (p, 0)) : ∃ g, altM (grpM 16) l 0 = .ok (p, [], g) ∧ sizeM p ≤ 400 := by
  unfold parseR at h
  split at h
  · rename_i q hq
    cases h
    unfold parseM at hq
    split at hq
    · cases hq
    · rename_i q2 t g ha
      split at hq
      · cases hq
      · rename_i ht
        split at hq
        · cases hq
        · rename_i hs
          cases hq
          have : t = [] := List.length_eq_zero_iff.mp (by omega)
          subst this
          exact ⟨g, ha, by omega⟩
  · rename_i e he
    cases h
    exact absurd rfl (parseM_err he)
/- How large, and how many groups. -/
mutual
theorem size_sh (d : Int) : ∀ (p : Pat), sizeM (shP d p) = sizeM p
  | .mk k r s nt lo hi ps => by
    simp only [shP, sizeM]
    by_cases hk : k = 10
    · have : k ≠ 11 := by omega
      rw [if_neg this]
      exact sizes_sh d k lo lo hi (fun _ => rfl) 1 ps
    · exact sizes_sh d k _ lo hi (fun e => absurd e hk) 1 ps
theorem sizes_sh (d k lo lo2 hi : Int) (hk : k = 10 → lo = lo2) : ∀ (n : Int) (ps : List Pat), sizesM k lo hi n (shPs d ps) = sizesM k lo2 hi n ps
  | n, [] => rfl
  | n, p :: ps => by
    simp only [shPs, sizesM]
    rw [size_sh d p, sizes_sh d k lo lo2 hi hk _ ps]
    by_cases c : k = 10
    · rw [if_pos c, if_pos c, hk c]
    · rw [if_neg c, if_neg c]
end
mutual
theorem cnt_sh (d : Int) : ∀ (p : Pat), cntM (shP d p) = cntM p
  | .mk k r s nt lo hi ps => by
    simp only [shP, cntM]
    exact cnts_sh d _ ps
theorem cnts_sh (d : Int) : ∀ (n : Int) (ps : List Pat), cntsM n (shPs d ps) = cntsM n ps
  | n, [] => rfl
  | n, p :: ps => by
    simp only [shPs, cntsM]
    rw [cnt_sh d p, cnts_sh d _ ps]
end
theorem cnts_app : ∀ (ps : List Pat) {qs : List Pat} {n : Int}, cntsM n (ps ++ qs) = cntsM (cntsM n ps) qs
  | [], qs, n => rfl
  | p :: ps, qs, n => by simp only [List.cons_append, cntsM]; exact cnts_app ps
theorem cnts_add : ∀ (ps : List Pat) {n : Int}, cntsM n ps = n + cntsM 0 ps
  | [], n => by simp only [cntsM]; omega
  | p :: ps, n => by simp only [cntsM]; rw [cnts_add ps, cnts_add ps (n := 0 + cntM p)]; omega
theorem cnt_alt : ∀ {l : List Pat}, cntM (pAlt l) = cntsM 0 l
  | [] => rfl
  | [x] => by simp only [pAlt, cntsM]; omega
  | x :: y :: l => rfl
theorem sizes_app {k lo hi : Int} : ∀ (ps : List Pat) {qs : List Pat} {n : Int}, sizesM k lo hi n (ps ++ qs) = sizesM k lo hi (sizesM k lo hi n ps) qs
  | [], qs, n => rfl
  | p :: ps, qs, n => by simp only [List.cons_append, sizesM]; exact sizes_app ps
theorem sizes_mono {k lo hi : Int} : ∀ (ps : List Pat) {n m : Int}, m ≤ n → sizesM k lo hi n ps ≤ sizesM k lo hi m ps + (n - m)
  | [], n, m, h => by simp only [sizesM]; omega
  | p :: ps, n, m, h => by
    simp only [sizesM]
    have M1 := kmin_spec (n + (if k = 10 then sizeM p * kmax (kmax 1 lo) hi else sizeM p)) 401
    have M2 := kmin_spec (m + (if k = 10 then sizeM p * kmax (kmax 1 lo) hi else sizeM p)) 401
    have h1 : kmin (m + (if k = 10 then sizeM p * kmax (kmax 1 lo) hi else sizeM p)) 401 ≤ kmin (n + (if k = 10 then sizeM p * kmax (kmax 1 lo) hi else sizeM p)) 401 := by omega
    have := sizes_mono ps (k := k) (lo := lo) (hi := hi) h1
    omega
/-- Alternatives are as large as the pattern, or by one larger. -/
theorem size_alt : ∀ {l : List Pat}, l ≠ [] → sizesM 9 0 0 1 l ≤ sizeM (pAlt l) + 1
  | [], h => absurd rfl h
  | [x], _ => by
    simp only [pAlt, sizesM]
    have M1 := kmin_spec (1 + (if (9 : Int) = 10 then sizeM x * kmax (kmax 1 0) 0 else sizeM x)) 401
    rw [if_neg (by decide)] at M1 ⊢
    omega
  | x :: y :: l, _ => by
    show _ ≤ sizesM 9 0 0 1 (x :: y :: l) + 1
    omega
theorem AltsR.ne {grp : List Int → Int → PRes} {acc ps : List Pat} {l t : List Int} {g g' : Int} (R : AltsR grp acc l g ps t g') : acc ≠ [] → ps ≠ [] := by
  induction R with
  | done c => exact id
  | more c hp _ ih => exact fun _ => ih (by simp)
theorem AltsR.cat {grp : List Int → Int → PRes} {acc ps : List Pat} {l t : List Int} {g g' : Int} (R : AltsR grp acc l g ps t g') (A : List Pat) : AltsR grp (A ++ acc) l g (A ++ ps) t g' := by
  induction R with
  | done c => exact .done c
  | more c hp _ ih => exact .more c hp (by rw [List.append_assoc]; exact ih)
theorem AltsR.kinds {grp : List Int → Int → PRes} (G : GK grp) {acc ps : List Pat} {l t : List Int} {g g' : Int} (R : AltsR grp acc l g ps t g') : (∀ q, q ∈ acc → q.kind ≠ 9) → ∀ q, q ∈ ps → q.kind ≠ 9 := by
  induction R with
  | done c => exact id
  | more c hp _ ih =>
    intro A
    refine ih fun q hq => ?_
    rcases List.mem_append.mp hq with e | e
    · exact A q e
    · rw [List.mem_singleton.mp e]; exact pieM_kind G _ (by simp) hp
theorem alts_sub : ∀ {ps : List Pat}, ps ≠ [] → PatOk (pAlt ps) → PatsOk ps
  | [], h, _ => absurd rfl h
  | [x], _, h => ⟨h, trivial⟩
  | x :: y :: l, _, h => h.2.2
/-- Two patterns with a bar between them are read as both. -/
theorem choices {a b : List Int} {x y : Pat} (la : a.length ≤ 1000) (ha : parseR a = (x, 0)) (hb : parseR b = (y, 0)) (sx : sizeM x ≤ 100) (sy : sizeM y ≤ 100) :
    ∃ ps qs : List Pat, x = pAlt ps ∧ ps ≠ [] ∧ qs ≠ [] ∧ (∀ q, q ∈ ps → q.kind ≠ 9) ∧ PatsOk ps ∧ parseR (a ++ barS b) = (.mk 9 0 [] false 0 0 (ps ++ qs), 0) ∧ cntM (.mk 9 0 [] false 0 0 (ps ++ qs)) = cntM x + cntM y := by
  obtain ⟨ga, hA, _⟩ := parseR_of ha
  obtain ⟨gb, hB, _⟩ := parseR_of hb
  have okx := altM_ok (grpM_ok 16) (grpM_GL 16) (by omega) hA
  obtain ⟨q, u, g1, ps, hp, R, rfl⟩ := altM_of hA
  obtain ⟨q', u', g1', qs, hp', R', rfl⟩ := altM_of hB
  have hps := R.ne (by simp)
  have hqs := R'.ne (by simp)
  have R2 := (R'.sh (grpM_GSh (d := ga) 16)).cat ps
  have P2 := pieM_sh (grpM_GSh (d := ga) 16) _ hp'
  rw [show (0 : Int) + ga = ga by omega] at P2
  have Q : AltsR (grpM 16) ps (barS b) ga (ps ++ qs.map (shP ga)) [] (gb + ga) := .more (by simp [barM]) P2 R2
  have T := R.top (grpM_GX (b := b) 16) rfl Q
  have M := altM_mk (grpM_GL 16) (pieM_app (grpM_GX (b := b) 16) _ ((a ++ barS b).length + 1) (by simp) hp) T
  have two : pAlt (ps ++ qs.map (shP ga)) = .mk 9 0 [] false 0 0 (ps ++ qs.map (shP ga)) := by
    match ps, hps, qs, hqs with
    | p :: ps, _, q :: qs, _ =>
      cases ps with
      | nil => rfl
      | cons p2 ps => rfl
  rw [two] at M
  have okp := alts_sub hps okx
  have z1 := sizes_pos 9 0 0 (fun e => absurd e (by decide)) ps okp 1 (by omega) (by omega)
  have z2 := size_alt hps
  have z3 := size_alt hqs
  have z4 := sizes_mono (k := 9) (lo := 0) (hi := 0) qs z1.1
  have z5 : sizeM (.mk 9 0 [] false 0 0 (ps ++ qs.map (shP ga))) ≤ 400 := by
    simp only [sizeM]
    rw [sizes_app, ← shPs_map, sizes_sh ga 9 0 0 0 (fun _ => rfl)]
    omega
  refine ⟨ps, qs.map (shP ga), rfl, hps, by simpa using hqs, R.kinds (grpM_GK 16) ?_, okp, parseR_ok M z5, ?_⟩
  · intro p hp2
    rw [List.mem_singleton.mp hp2]
    exact pieM_kind (grpM_GK 16) _ (by simp) hp
  · rw [cnt_alt, cnt_alt]
    simp only [cntM]
    rw [if_neg (by decide), cnts_app, ← shPs_map, cnts_sh, cnts_add qs]
end Go.Proofs.Ytnnkcbkenofhmaa.Am
end
section
/- Patterns, the program: how many groups a pattern has; by walks. PatChoices told of abstract memory. -/
set_option linter.unusedSimpArgs false
set_option linter.unusedVariables false
set_option maxHeartbeats 4000000
set_option maxRecDepth 20000
namespace Go.Proofs.Ytnnkcbkenofhmaa.Am
open Go Go.RowKit Go.Proofs.Try
theorem azFun : azero prog 36 = some .nilFunc := by kernel_rfl
theorem alFun {tm : Tm} {h : Heap} : aeff prog tm h (.alloc 36) = some (.pointer (some ⟨h.size, 0, none⟩), h.new 36 [Value.nilFunc]) := alloc_eq azFun asz36 (by kernel_rfl)
/-- The closure that calls itself through its cell. -/
def cntF (b : Nat) : Value := .func (.func 25) #[] #[pt b]
theorem grpCount_all : ∀ (m : Nat) (p : Pat) (c : RC) (h : Heap) (D : Nat → Prop) (cb : Nat), SizeOf.sizeOf p < m → PatOk p → ReR h D p c → Var h cb [cntF cb] → ACalls prog 25 #[reV c, pt cb] h (fun y h' => y = .int .i64 (IntKind.i64.wrap (cntM p)) ∧ Keeps h h')
  | 0, p, c, h, D, cb, hm, _, _, _ => by omega
  | m + 1, p, c, h, D, cb, hm, hok, P, VC => by
    refine acalls_of_W' func25 rfl (by kernel_rfl) (by kernel_rfl) (by simp [ntmps25]) ?_
    intro H
    obtain ⟨k, r, set, nt, lo, hi, ps⟩ := p
    have P0 := P
    simp only [ReR] at P
    obtain ⟨p1, p2, p3, p4, p5, p6, p7, p8, l, PS, PR⟩ := P
    have N1 := Keeps.new H 26 (reC c)
    have V1 := Var.new (e := 26) H (cs := reC c)
    have hll := PR.len
    have LK : ∀ {hh : Heap}, Var hh h.size (reC c) → aload prog hh 3 ⟨h.size, 0, none⟩ = some (.int .i64 k) := fun V => by rw [← p1]; exact V.load1 (P := prog) (t := 3) underlying3 rfl (i := 0)
    have LLO : ∀ {hh : Heap}, Var hh h.size (reC c) → aload prog hh 3 ⟨h.size, 4, none⟩ = some (.int .i64 lo) := fun V => by rw [← p4]; exact V.load1 (P := prog) (t := 3) underlying3 rfl (i := 4)
    have LHI : ∀ {hh : Heap}, Var hh h.size (reC c) → aload prog hh 3 ⟨h.size, 5, none⟩ = some (.int .i64 hi) := fun V => by rw [← p5]; exact V.load1 (P := prog) (t := 3) underlying3 rfl (i := 5)
    have LPV : ∀ {hh : Heap}, Var hh h.size (reC c) → aload prog hh 24 ⟨h.size, 6, none⟩ = some c.pv := fun V => V.load1 (P := prog) (t := 24) underlying24 rfl (i := 6)
    have start : ∃ n0 : Int, n0 = (if k = 11 then 1 else 0) ∧ IntKind.i64.wrap n0 = n0 := ⟨_, rfl, by split <;> exact wrap_small (by simp)⟩
    obtain ⟨n0, hn0, hw0⟩ := start
    have hlen : l.length ≤ 10000001 := by simp only [PatOk] at hok; omega
    have LNP := RS.len (RS.keeps PS N1) underlying24
    by_cases ck : k = 11
    · have d1 := decide_eq_true ck
      rw [if_pos ck] at hn0
      subst hn0
      simp only [wk, wt, wl, ↓reduceIte, Nat.reduceEqDiff, Nat.reduceAdd, Nat.zero_add, not_false_eq_true, not_true_eq_false, pt, aeff_box, boxRe P0.one1.1 P0.one1.2, LK V1, d1, LPV V1, LNP]
      refine W_loop (fun tm hh => Keeps (h.new 26 (reC c)) hh ∧ tm 1 = pt cb ∧ tm 11 = c.pv ∧ tm 12 = .int .i64 (l.length : Int) ∧ ∃ (i : Nat) (n : Int), tm 13 = .int .i64 (i : Int) ∧ tm 4 = .int .i64 (IntKind.i64.wrap n) ∧ i ≤ l.length ∧ cntsM n (ps.drop i) = cntsM 1 ps)
        (fun tm _ => (l.length - intOf (tm 13)).toNat) ⟨Keeps.refl (Ch.wf N1), (by first | rfl | (simp only [wk, wt, wl, ↓reduceIte, Nat.reduceEqDiff, Nat.reduceAdd, Nat.zero_add, not_false_eq_true, not_true_eq_false]; done) | (simp only [wk, wt, wl, ↓reduceIte, Nat.reduceEqDiff, Nat.reduceAdd, Nat.zero_add, not_false_eq_true, not_true_eq_false]; rfl) | (simp only [wk, wt, wl, ↓reduceIte, Nat.reduceEqDiff, Nat.reduceAdd, Nat.zero_add, not_false_eq_true, not_true_eq_false, pt]; done) | (simp only [wk, wt, wl, ↓reduceIte, Nat.reduceEqDiff, Nat.reduceAdd, Nat.zero_add, not_false_eq_true, not_true_eq_false, pt]; rfl)), (by first | rfl | (simp only [wk, wt, wl, ↓reduceIte, Nat.reduceEqDiff, Nat.reduceAdd, Nat.zero_add, not_false_eq_true, not_true_eq_false]; done) | (simp only [wk, wt, wl, ↓reduceIte, Nat.reduceEqDiff, Nat.reduceAdd, Nat.zero_add, not_false_eq_true, not_true_eq_false]; rfl)), (by first | rfl | (simp only [wk, wt, wl, ↓reduceIte, Nat.reduceEqDiff, Nat.reduceAdd, Nat.zero_add, not_false_eq_true, not_true_eq_false]; done) | (simp only [wk, wt, wl, ↓reduceIte, Nat.reduceEqDiff, Nat.reduceAdd, Nat.zero_add, not_false_eq_true, not_true_eq_false]; rfl)), 0, 1, (by first | rfl | (simp only [wk, wt, wl, ↓reduceIte, Nat.reduceEqDiff, Nat.reduceAdd, Nat.zero_add, not_false_eq_true, not_true_eq_false]; done) | (simp only [wk, wt, wl, ↓reduceIte, Nat.reduceEqDiff, Nat.reduceAdd, Nat.zero_add, not_false_eq_true, not_true_eq_false]; rfl)), (by first | rfl | (simp only [wk, wt, wl, ↓reduceIte, Nat.reduceEqDiff, Nat.reduceAdd, Nat.zero_add, not_false_eq_true, not_true_eq_false]; done) | (simp only [wk, wt, wl, ↓reduceIte, Nat.reduceEqDiff, Nat.reduceAdd, Nat.zero_add, not_false_eq_true, not_true_eq_false]; rfl) | (simp only [wk, wt, wl, ↓reduceIte, Nat.reduceEqDiff, Nat.reduceAdd, Nat.zero_add, not_false_eq_true, not_true_eq_false, hw0]; done) | (simp only [wk, wt, wl, ↓reduceIte, Nat.reduceEqDiff, Nat.reduceAdd, Nat.zero_add, not_false_eq_true, not_true_eq_false, hw0]; rfl)), by omega, rfl⟩ ?_
      rintro tm hh ⟨K, t1, t11, t12, i, n, t13, t4, hi1, hR⟩
      simp only [wk, wt, wl, ↓reduceIte, Nat.reduceEqDiff, Nat.reduceAdd, Nat.zero_add, not_false_eq_true, not_true_eq_false, pt, t1, t11, t12, t13, t4]
      refine condK_dec (fun hd => ?_) (fun hd => ?_)
      · have hi2 : i < l.length := by omega
        obtain ⟨p', hp'⟩ : ∃ p', ps[i]? = some p' := ⟨_, List.getElem?_eq_getElem (by omega)⟩
        have PRh := RePs.ch (N1.trans K) (fun _ e => e.elim) ps l PR
        have PSh : RS prog hh 7 reC c.pv l := RS.keeps PS (N1.trans K)
        obtain ⟨c', hc', Q⟩ := PRh.at hp'
        have IX := Rd.index PSh underlying24 asz26 (q := .i64) (i := (i : Int)) (by omega) (by omega)
        rw [Int.toNat_natCast] at IX
        have LX : aload prog hh 26 (eltA c.pv 7 i) = some (reV c') := RS.agg PSh reC_len underlying26 rfl asz26 hc'
        have Vh := Keeps.var (Ch.wf N1) K V1
        have hdr : ps.drop i = p' :: ps.drop (i + 1) := dropAt hp'
        have hok' := hok.2.2.at hp'
        have hsz' := size_pos p' hok'
        have N2 := Keeps.new (Ch.wf K) 26 (reC rc0)
        obtain ⟨h3, e3, V3, C3, z3⟩ := (Var.new (e := 26) (Ch.wf K) (cs := reC rc0)).put (Ch.wf N2) (d := c') Q.one1.1 Q.one1.2
        have K3 : Keeps hh h3 := N2.step C3 fun b e => by omega
        have Q3 := ReR.ch K3 (fun _ e => e.elim) _ _ Q
        have VC3 := Keeps.var H ((N1.trans K).trans K3) VC
        have LF : aload prog h3 36 ⟨cb, 0, none⟩ = some (cntF cb) := VC3.load1 (P := prog) (t := 36) underlying36 rfl (i := 0)
        rw [hdr] at hR
        simp only [cntsM] at hR
        simp only [wk, wt, wl, ↓reduceIte, Nat.reduceEqDiff, Nat.reduceAdd, Nat.zero_add, not_false_eq_true, not_true_eq_false, pt, t1, t11, t12, t13, t4, newRe, newSz, IX, LX, e3, LF, V3.re, cntF, callV_func, body25]
        refine (grpCount_all m p' c' h3 _ cb (by have := pat_lt (k := k) (r := r) (s := set) (nt := nt) (lo := lo) (hi := hi) hp'; omega) hok' Q3 VC3).use ?_
        rintro _ h4 ⟨rfl, K4⟩
        have wi : IntKind.i64.wrap ((i : Int) + 1) = ((i + 1 : Nat) : Int) := by have := hlen; rw [IntWalk.i64_in _ (by omega)]; omega
        simp only [wk, wt, wl, ↓reduceIte, Nat.reduceEqDiff, Nat.reduceAdd, Nat.zero_add, not_false_eq_true, not_true_eq_false, pt, t1, t11, t12, t13, t4, wrap_add, wi, intOf_int]
        exact ⟨⟨(K.trans K3).trans K4, i + 1, _, rfl, rfl, by omega, hR⟩, by omega⟩
      · have : i = ps.length := by omega
        rw [this, List.drop_length] at hR
        simp only [cntsM] at hR
        simp only [wk, wt, wl, ↓reduceIte, Nat.reduceEqDiff, Nat.reduceAdd, Nat.zero_add, not_false_eq_true, not_true_eq_false, t4]
        exact ⟨by simp only [cntM]; rw [(if_pos ck), ← hR], N1.trans K⟩
    · have d1 := decide_eq_false ck
      rw [if_neg ck] at hn0
      subst hn0
      simp only [wk, wt, wl, ↓reduceIte, Nat.reduceEqDiff, Nat.reduceAdd, Nat.zero_add, not_false_eq_true, not_true_eq_false, pt, aeff_box, boxRe P0.one1.1 P0.one1.2, LK V1, d1, LPV V1, LNP]
      refine W_loop (fun tm hh => Keeps (h.new 26 (reC c)) hh ∧ tm 1 = pt cb ∧ tm 11 = c.pv ∧ tm 12 = .int .i64 (l.length : Int) ∧ ∃ (i : Nat) (n : Int), tm 13 = .int .i64 (i : Int) ∧ tm 4 = .int .i64 (IntKind.i64.wrap n) ∧ i ≤ l.length ∧ cntsM n (ps.drop i) = cntsM 0 ps)
        (fun tm _ => (l.length - intOf (tm 13)).toNat) ⟨Keeps.refl (Ch.wf N1), (by first | rfl | (simp only [wk, wt, wl, ↓reduceIte, Nat.reduceEqDiff, Nat.reduceAdd, Nat.zero_add, not_false_eq_true, not_true_eq_false]; done) | (simp only [wk, wt, wl, ↓reduceIte, Nat.reduceEqDiff, Nat.reduceAdd, Nat.zero_add, not_false_eq_true, not_true_eq_false]; rfl) | (simp only [wk, wt, wl, ↓reduceIte, Nat.reduceEqDiff, Nat.reduceAdd, Nat.zero_add, not_false_eq_true, not_true_eq_false, pt]; done) | (simp only [wk, wt, wl, ↓reduceIte, Nat.reduceEqDiff, Nat.reduceAdd, Nat.zero_add, not_false_eq_true, not_true_eq_false, pt]; rfl)), (by first | rfl | (simp only [wk, wt, wl, ↓reduceIte, Nat.reduceEqDiff, Nat.reduceAdd, Nat.zero_add, not_false_eq_true, not_true_eq_false]; done) | (simp only [wk, wt, wl, ↓reduceIte, Nat.reduceEqDiff, Nat.reduceAdd, Nat.zero_add, not_false_eq_true, not_true_eq_false]; rfl)), (by first | rfl | (simp only [wk, wt, wl, ↓reduceIte, Nat.reduceEqDiff, Nat.reduceAdd, Nat.zero_add, not_false_eq_true, not_true_eq_false]; done) | (simp only [wk, wt, wl, ↓reduceIte, Nat.reduceEqDiff, Nat.reduceAdd, Nat.zero_add, not_false_eq_true, not_true_eq_false]; rfl)), 0, 0, (by first | rfl | (simp only [wk, wt, wl, ↓reduceIte, Nat.reduceEqDiff, Nat.reduceAdd, Nat.zero_add, not_false_eq_true, not_true_eq_false]; done) | (simp only [wk, wt, wl, ↓reduceIte, Nat.reduceEqDiff, Nat.reduceAdd, Nat.zero_add, not_false_eq_true, not_true_eq_false]; rfl)), (by first | rfl | (simp only [wk, wt, wl, ↓reduceIte, Nat.reduceEqDiff, Nat.reduceAdd, Nat.zero_add, not_false_eq_true, not_true_eq_false]; done) | (simp only [wk, wt, wl, ↓reduceIte, Nat.reduceEqDiff, Nat.reduceAdd, Nat.zero_add, not_false_eq_true, not_true_eq_false]; rfl) | (simp only [wk, wt, wl, ↓reduceIte, Nat.reduceEqDiff, Nat.reduceAdd, Nat.zero_add, not_false_eq_true, not_true_eq_false, hw0]; done) | (simp only [wk, wt, wl, ↓reduceIte, Nat.reduceEqDiff, Nat.reduceAdd, Nat.zero_add, not_false_eq_true, not_true_eq_false, hw0]; rfl)), by omega, rfl⟩ ?_
      rintro tm hh ⟨K, t1, t11, t12, i, n, t13, t4, hi1, hR⟩
      simp only [wk, wt, wl, ↓reduceIte, Nat.reduceEqDiff, Nat.reduceAdd, Nat.zero_add, not_false_eq_true, not_true_eq_false, pt, t1, t11, t12, t13, t4]
      refine condK_dec (fun hd => ?_) (fun hd => ?_)
      · have hi2 : i < l.length := by omega
        obtain ⟨p', hp'⟩ : ∃ p', ps[i]? = some p' := ⟨_, List.getElem?_eq_getElem (by omega)⟩
        have PRh := RePs.ch (N1.trans K) (fun _ e => e.elim) ps l PR
        have PSh : RS prog hh 7 reC c.pv l := RS.keeps PS (N1.trans K)
        obtain ⟨c', hc', Q⟩ := PRh.at hp'
        have IX := Rd.index PSh underlying24 asz26 (q := .i64) (i := (i : Int)) (by omega) (by omega)
        rw [Int.toNat_natCast] at IX
        have LX : aload prog hh 26 (eltA c.pv 7 i) = some (reV c') := RS.agg PSh reC_len underlying26 rfl asz26 hc'
        have Vh := Keeps.var (Ch.wf N1) K V1
        have hdr : ps.drop i = p' :: ps.drop (i + 1) := dropAt hp'
        have hok' := hok.2.2.at hp'
        have hsz' := size_pos p' hok'
        have N2 := Keeps.new (Ch.wf K) 26 (reC rc0)
        obtain ⟨h3, e3, V3, C3, z3⟩ := (Var.new (e := 26) (Ch.wf K) (cs := reC rc0)).put (Ch.wf N2) (d := c') Q.one1.1 Q.one1.2
        have K3 : Keeps hh h3 := N2.step C3 fun b e => by omega
        have Q3 := ReR.ch K3 (fun _ e => e.elim) _ _ Q
        have VC3 := Keeps.var H ((N1.trans K).trans K3) VC
        have LF : aload prog h3 36 ⟨cb, 0, none⟩ = some (cntF cb) := VC3.load1 (P := prog) (t := 36) underlying36 rfl (i := 0)
        rw [hdr] at hR
        simp only [cntsM] at hR
        simp only [wk, wt, wl, ↓reduceIte, Nat.reduceEqDiff, Nat.reduceAdd, Nat.zero_add, not_false_eq_true, not_true_eq_false, pt, t1, t11, t12, t13, t4, newRe, newSz, IX, LX, e3, LF, V3.re, cntF, callV_func, body25]
        refine (grpCount_all m p' c' h3 _ cb (by have := pat_lt (k := k) (r := r) (s := set) (nt := nt) (lo := lo) (hi := hi) hp'; omega) hok' Q3 VC3).use ?_
        rintro _ h4 ⟨rfl, K4⟩
        have wi : IntKind.i64.wrap ((i : Int) + 1) = ((i + 1 : Nat) : Int) := by have := hlen; rw [IntWalk.i64_in _ (by omega)]; omega
        simp only [wk, wt, wl, ↓reduceIte, Nat.reduceEqDiff, Nat.reduceAdd, Nat.zero_add, not_false_eq_true, not_true_eq_false, pt, t1, t11, t12, t13, t4, wrap_add, wi, intOf_int]
        exact ⟨⟨(K.trans K3).trans K4, i + 1, _, rfl, rfl, by omega, hR⟩, by omega⟩
      · have : i = ps.length := by omega
        rw [this, List.drop_length] at hR
        simp only [cntsM] at hR
        simp only [wk, wt, wl, ↓reduceIte, Nat.reduceEqDiff, Nat.reduceAdd, Nat.zero_add, not_false_eq_true, not_true_eq_false, t4]
        exact ⟨by simp only [cntM]; rw [(if_neg ck), ← hR], N1.trans K⟩
theorem parseR_pat {l : List Int} (hl : l.length ≤ 10000000) : PatOk (parseR l).1 := by
  unfold parseR
  split
  · rename_i p hp; exact (parseM_ok hl hp).1
  · exact patOk_leaf (by decide)
theorem groups_ok {h : Heap} {pv : Value} {l : List Int} (S : RdI prog h .i32 pv l) (hl : l.length ≤ 10000000) (h32 : I32 l) :
    ACalls prog 13 #[pv] h (fun y h' => y = .int .i64 (IntKind.i64.wrap (cntM (parseR l).1)) ∧ Keeps h h') := by
  refine acalls_of_W' func13 rfl (by kernel_rfl) (by kernel_rfl) (by simp [ntmps13]) ?_
  intro H
  simp only [wk, wt, wl, ↓reduceIte, Nat.reduceEqDiff, Nat.reduceAdd, Nat.zero_add, not_false_eq_true, not_true_eq_false]
  refine (parse_ok S hl h32).use ?_
  rintro _ h1 ⟨c1, rfl, P1, K1⟩
  obtain ⟨h2, e2, V2, P2, K2, z2⟩ := var_new K1 P1
  have K02 := K1.trans K2
  have N3 := Keeps.new (Ch.wf K2) 36 [Value.nilFunc]
  have V3 := Var.new (e := 36) (Ch.wf K2) (cs := [Value.nilFunc])
  obtain ⟨h4, e4, V4, C4, z4⟩ := V3.store1 (P := prog) (t := 36) (v := cntF h2.size) (i := 0) (Ch.wf N3) asz36 (by simp) rfl
  have K24 : Keeps h2 h4 := N3.step C4 fun b e => by omega
  have V4' : Var h4 h2.size [cntF h2.size] := V4
  have LF : aload prog h4 36 ⟨h2.size, 0, none⟩ = some (cntF h2.size) := V4'.load1 (P := prog) (t := 36) underlying36 rfl (i := 0)
  have V24 := Keeps.var (Ch.wf K2) K24 V2
  simp only [cntF, pt] at e4 LF
  simp only [wk, wt, wl, ↓reduceIte, Nat.reduceEqDiff, Nat.reduceAdd, Nat.zero_add, not_false_eq_true, not_true_eq_false, newRe, newSz, e2, alFun, e4, LF, V24.re, callV_func, body25]
  refine (grpCount_all _ _ c1 h4 _ h2.size (Nat.lt_succ_self _) (parseR_pat hl) (ReR.ch K24 (fun _ e => e.elim) _ _ P2) V4').use ?_
  rintro _ h5 ⟨rfl, K5⟩
  simp only [wk, wt, wl, ↓reduceIte, Nat.reduceEqDiff, Nat.reduceAdd, Nat.zero_add, not_false_eq_true, not_true_eq_false]
  exact (K02.trans K24).trans K5
end Go.Proofs.Ytnnkcbkenofhmaa.Am
end
section
/- PatChoices told of abstract memory. -/
set_option linter.unusedSimpArgs false
set_option linter.unusedVariables false
set_option maxHeartbeats 4000000
set_option maxRecDepth 20000
namespace Go.Proofs.Ytnnkcbkenofhmaa.Am
open Go Go.RowKit Go.Proofs.Try
theorem patChoices_law {h : Heap} {va vb : Value} {a b : List Int} (SA : RdI prog h .i32 va a) (SB : RdI prog h .i32 vb b) (h32a : I32 a) (h32b : I32 b) :
    ACalls prog 6 #[va, vb] h (fun y h' => y = .bool true ∧ Keeps h h') := by
  refine acalls_of_W' func6 rfl (by kernel_rfl) (by kernel_rfl) (by simp [ntmps6]) ?_
  intro H
  have LA := fun {hh : Heap} (K : Keeps h hh) => (SA.keeps K).ln (n := (a.length : Int)) rfl
  have LB := fun {hh : Heap} (K : Keeps h hh) => (SB.keeps K).ln (n := (b.length : Int)) rfl
  have KR := Keeps.refl H
  by_cases ca : 300 < (a.length : Int)
  · have d1 := decide_eq_true ca
    simp only [wk, wt, wl, ↓reduceIte, Nat.reduceEqDiff, Nat.reduceAdd, Nat.zero_add, not_false_eq_true, not_true_eq_false, LA KR, LB KR, d1]
    exact KR
  have d1 := decide_eq_false ca
  by_cases cb : 300 < (b.length : Int)
  · have d2 := decide_eq_true cb
    simp only [wk, wt, wl, ↓reduceIte, Nat.reduceEqDiff, Nat.reduceAdd, Nat.zero_add, not_false_eq_true, not_true_eq_false, LA KR, LB KR, d1, d2]
    exact KR
  have d2 := decide_eq_false cb
  simp only [wk, wt, wl, ↓reduceIte, Nat.reduceEqDiff, Nat.reduceAdd, Nat.zero_add, not_false_eq_true, not_true_eq_false, LA KR, LB KR, d1, d2]
  refine (parse_ok SA (by omega) h32a).use ?_
  rintro _ h1 ⟨cx, rfl, P1, K1⟩
  obtain ⟨h2, e2, V2, P2, K2, z2⟩ := var_new K1 P1
  have K02 := K1.trans K2
  simp only [wk, wt, wl, ↓reduceIte, Nat.reduceEqDiff, Nat.reduceAdd, Nat.zero_add, not_false_eq_true, not_true_eq_false, newRe, newSz, e2]
  refine (parse_ok (SB.keeps K02) (by omega) h32b).use ?_
  rintro _ h3 ⟨cy, rfl, P3, K3⟩
  obtain ⟨h4, e4, V4, P4, K4, z4⟩ := var_new K3 P3
  have K24 := K3.trans K4
  have K04 := K02.trans K24
  have V24 := Keeps.var (Ch.wf K02) K24 V2
  have P24 := ReR.ch K24 (fun _ e => e.elim) _ _ P2
  have okx := parseR_pat (l := a) (by omega)
  have oky := parseR_pat (l := b) (by omega)
  generalize hxa : parseR a = xa at *
  generalize hyb : parseR b = yb at *
  obtain ⟨x, e⟩ := xa
  obtain ⟨y, f⟩ := yb
  simp only at P2 P24 P4 okx oky
  by_cases ce : e = 0
  case neg =>
    have d3 : decide (¬ e = 0) = true := decide_eq_true ce
    simp only [wk, wt, wl, ↓reduceIte, Nat.reduceEqDiff, Nat.reduceAdd, Nat.zero_add, not_false_eq_true, not_true_eq_false, newRe, newSz, e4, d3]
    refine (awake_ok).use ?_
    rintro _ h9 ⟨rfl, K9⟩
    simp only [wk, wt, wl, ↓reduceIte, Nat.reduceEqDiff, Nat.reduceAdd, Nat.zero_add, not_false_eq_true, not_true_eq_false]
    exact (K04).trans K9
  subst ce
  have d3 : decide (¬ (0 : Int) = 0) = false := rfl
  by_cases cf : f = 0
  case neg =>
    have d4 : decide (¬ f = 0) = true := decide_eq_true cf
    simp only [wk, wt, wl, ↓reduceIte, Nat.reduceEqDiff, Nat.reduceAdd, Nat.zero_add, not_false_eq_true, not_true_eq_false, newRe, newSz, e4, d3, d4]
    refine (awake_ok).use ?_
    rintro _ h9 ⟨rfl, K9⟩
    simp only [wk, wt, wl, ↓reduceIte, Nat.reduceEqDiff, Nat.reduceAdd, Nat.zero_add, not_false_eq_true, not_true_eq_false]
    exact (K04).trans K9
  subst cf
  simp only [wk, wt, wl, ↓reduceIte, Nat.reduceEqDiff, Nat.reduceAdd, Nat.zero_add, not_false_eq_true, not_true_eq_false, newRe, newSz, e4, d3, V24.re]
  refine (short_ok okx P24).use ?_
  rintro _ h5 ⟨rfl, K5⟩
  have K05 := K04.trans K5
  by_cases sx : sizeM x ≤ 100
  case neg =>
    have d5 := decide_eq_false sx
    simp only [wk, wt, wl, ↓reduceIte, Nat.reduceEqDiff, Nat.reduceAdd, Nat.zero_add, not_false_eq_true, not_true_eq_false, d5]
    refine (awake_ok).use ?_
    rintro _ h9 ⟨rfl, K9⟩
    simp only [wk, wt, wl, ↓reduceIte, Nat.reduceEqDiff, Nat.reduceAdd, Nat.zero_add, not_false_eq_true, not_true_eq_false]
    exact (K05).trans K9
  have d5 := decide_eq_true sx
  have V45 := Keeps.var (Ch.wf K04) K5 V4
  have P45 := ReR.ch K5 (fun _ e => e.elim) _ _ P4
  simp only [wk, wt, wl, ↓reduceIte, Nat.reduceEqDiff, Nat.reduceAdd, Nat.zero_add, not_false_eq_true, not_true_eq_false, d5, V45.re]
  refine (short_ok oky P45).use ?_
  rintro _ h6 ⟨rfl, K6⟩
  have K06 := K05.trans K6
  by_cases sy : sizeM y ≤ 100
  case neg =>
    have d6 := decide_eq_false sy
    simp only [wk, wt, wl, ↓reduceIte, Nat.reduceEqDiff, Nat.reduceAdd, Nat.zero_add, not_false_eq_true, not_true_eq_false, d6]
    refine (awake_ok).use ?_
    rintro _ h9 ⟨rfl, K9⟩
    simp only [wk, wt, wl, ↓reduceIte, Nat.reduceEqDiff, Nat.reduceAdd, Nat.zero_add, not_false_eq_true, not_true_eq_false]
    exact (K06).trans K9
  have d6 := decide_eq_true sy
  have K46 := K5.trans K6
  have V26 := Keeps.var (Ch.wf K04) K46 V24
  have P26 := ReR.ch K46 (fun _ e => e.elim) _ _ P24
  obtain ⟨ps, qs, rfl, hps, hqs, hk9, okps, hz, hcnt⟩ := choices (by omega) hxa hyb sx sy
  have H6 := Ch.wf K06
  have K6R := Keeps.refl H6
  obtain ⟨v7, h7, e7, O7, K7, _, _⟩ := (OwI.nil (B := h6.size) (h := h6)).app K6R (SA.keeps K06) (by simp; omega)
  rw [List.nil_append] at O7
  obtain ⟨v8, h8, e8, O8, K8, _, _⟩ := O7.lit K7 [92, 124] (by simp; omega)
  have e8' : aappend prog (h7.new 21 [.int .i32 92, .int .i32 124]) 22 22 v7 (.slice (some ⟨h7.size, 0, none⟩) 2 3) = some (v8, h8) := e8
  obtain ⟨v9, h9, e9, O9, K9, _, _⟩ := O8.app K8 (SB.keeps (K06.trans K8)) (by simp; omega)
  have hall : a ++ [92, 124] ++ b = a ++ barS b := by simp
  rw [hall] at O9
  have K09 := K06.trans K9
  have e7' : aappend prog h6 22 22 (.slice none 0 0) va = some (v7, h7) := e7
  have lz : (a ++ barS b).length ≤ 10000000 := by simp; omega
  have h32z : I32 (a ++ barS b) := fun q hq => by
    rcases List.mem_append.mp hq with e | e
    · exact h32a q e
    · rcases List.mem_cons.mp e with rfl | e
      · exact ⟨by decide, by decide⟩
      · rcases List.mem_cons.mp e with rfl | e
        · exact ⟨by decide, by decide⟩
        · exact h32b q e
  simp only [wk, wt, wl, ↓reduceIte, Nat.reduceEqDiff, Nat.reduceAdd, Nat.zero_add, not_false_eq_true, not_true_eq_false, d6, e7', e8', e9]
  refine (parse_ok O9.rd lz h32z).use ?_
  rintro _ h10 ⟨cz, rfl, P10, K10⟩
  rw [hz] at P10
  have okz := parseR_pat (l := a ++ barS b) lz
  rw [hz] at okz
  have lzz : (ps ++ qs).length ≤ 10000001 := okz.2.1.1
  rw [List.length_append] at lzz
  obtain ⟨h11, e11, V11, P11, K11, z11⟩ := var_new (K09.trans K10) P10
  have K911 := K10.trans K11
  have K011 := K09.trans K911
  have P11' := P11
  obtain ⟨a1, a2, a3, a4, a5, a6, a7, a8, cl, S11, A11⟩ := P11
  have LK := V11.k0
  rw [a1] at LK
  have hll := A11.len
  rw [List.length_append] at hll
  have p1 : 1 ≤ ps.length := by rcases ps with _ | ⟨q, ps⟩; exact absurd rfl hps; simp
  have q1 : 1 ≤ qs.length := by rcases qs with _ | ⟨q, qs⟩; exact absurd rfl hqs; simp
  have LNP := RS.len S11 underlying24
  have d7 : decide (¬ (9 : Int) = 9) = false := rfl
  have d8 : decide ((cl.length : Int) < 2) = false := decide_eq_false (by omega)
  simp only [wk, wt, wl, ↓reduceIte, Nat.reduceEqDiff, Nat.reduceAdd, Nat.zero_add, not_false_eq_true, not_true_eq_false, hz, newRe, newSz, e11, d3, LK, d7, V11.k6, LNP, d8]
  refine (groups_ok (O9.rd.keeps K911) lz h32z).use ?_
  rintro _ h12 ⟨rfl, K12⟩
  simp only [wk, wt, wl, ↓reduceIte, Nat.reduceEqDiff, Nat.reduceAdd, Nat.zero_add, not_false_eq_true, not_true_eq_false]
  refine (groups_ok (SA.keeps (K011.trans K12)) (by omega) h32a).use ?_
  rintro _ h13 ⟨rfl, K13⟩
  simp only [wk, wt, wl, ↓reduceIte, Nat.reduceEqDiff, Nat.reduceAdd, Nat.zero_add, not_false_eq_true, not_true_eq_false]
  refine (groups_ok (SB.keeps ((K011.trans K12).trans K13)) (by omega) h32b).use ?_
  rintro _ h14 ⟨rfl, K14⟩
  have K1114 := (K12.trans K13).trans K14
  have K014 := K011.trans K1114
  have V14 := Keeps.var (Ch.wf K011) K1114 V11
  have V214 := Keeps.var H6 ((K9.trans K911).trans K1114) V26
  have P214 := ReR.ch ((K9.trans K911).trans K1114) (fun _ e => e.elim) _ _ P26
  have S14 := RS.keeps S11 K1114
  have A14 := RePs.ch K1114 (fun _ e => e.elim) _ _ A11
  have d9 : decide (¬ IntKind.i64.wrap (cntM (parseR (a ++ barS b)).1) = IntKind.i64.wrap (IntKind.i64.wrap (cntM (parseR a).1) + IntKind.i64.wrap (cntM (parseR b).1))) = false := by
    rw [wrap_add, hz, hxa, hyb, hcnt]; simp
  have LKX := V214.k0
  rw [ReR.kind P214] at LKX
  match ps, hps, hk9, okps, hcnt, hz, P214, A14, LKX, p1, hll with
  | [q], _, hk9, okps, hcnt, hz, P214, A14, LKX, p1, hll =>
    have hk : (pAlt [q]).kind ≠ 9 := hk9 q (by simp)
    have d10 : decide ((pAlt [q]).kind = 9) = false := decide_eq_false hk
    have d11 : decide ((1 : Int) = 1) = true := rfl
    simp only [wk, wt, wl, ↓reduceIte, Nat.reduceEqDiff, Nat.reduceAdd, Nat.zero_add, not_false_eq_true, not_true_eq_false, d9, LKX, d10, d11]
    obtain ⟨c', hc', Q⟩ := A14.at (i := 0) (p := q) rfl
    have IX := Rd.index S14 underlying24 asz26 (q := .i64) (i := 0) (by omega) (by omega)
    have LX : aload prog h14 26 (eltA cz.pv 7 0) = some (reV c') := RS.agg S14 reC_len underlying26 rfl asz26 hc'
    refine adraw_order [(0, false), (1, false), (2, false), (3, false), (4, false), (5, true), (6, false), (7, true), (8, false), (9, false)] mixed (by kernel_rfl) (by kernel_rfl) (by kernel_rfl) (by with_reducible repeat (first | exact PF_retK | refine PF_thenK ?_ | refine PF_blockK ?_)) ?_
    simp only [wk, wt, wl, ↓reduceIte, Nat.reduceEqDiff, Nat.reduceAdd, Nat.zero_add, not_false_eq_true, not_true_eq_false, V14.k6, IX, Int.toNat_zero, LX, V214.re]
    refine (same_all _ q c' cx _ _ _ (Nat.lt_succ_self _) okps.1 Q P214).use ?_
    rintro _ h15 ⟨rfl, K15⟩
    simp only [wk, wt, wl, ↓reduceIte, Nat.reduceEqDiff, Nat.reduceAdd, Nat.zero_add, not_false_eq_true, not_true_eq_false, dK_t]
    refine ⟨K15.reads (Ch.wf K014), ?_⟩
    refine (awake_ok).use ?_
    rintro _ h16 ⟨rfl, K16⟩
    simp only [wk, wt, wl, ↓reduceIte, Nat.reduceEqDiff, Nat.reduceAdd, Nat.zero_add, not_false_eq_true, not_true_eq_false, dK_t]
    refine ⟨K16.reads (Ch.wf K15), ?_⟩
    exact (K014.trans K15).trans K16
  | q :: q2 :: ps, _, hk9, okps, hcnt, hz, P214, A14, LKX, p1, hll =>
    generalize hl2 : q :: q2 :: ps = ll at *
    have hka : pAlt ll = .mk 9 0 [] false 0 0 ll := by rw [← hl2]; rfl
    have l2 : 2 ≤ ll.length := by rw [← hl2]; simp
    rw [hka] at P214 LKX
    obtain ⟨b1, b2, b3, b4, b5, b6, b7, b8, cl2, S2, A2⟩ := P214
    have hl22 := A2.len
    have LN2 := RS.len S2 underlying24
    have d10 : decide ((9 : Int) = 9) = true := rfl
    have d11 : decide ((cl2.length : Int) = 1) = false := decide_eq_false (by omega)
    have LKX' : aload prog h14 3 ⟨h1.size, 0, none⟩ = some (.int .i64 9) := LKX
    simp only [wk, wt, wl, ↓reduceIte, Nat.reduceEqDiff, Nat.reduceAdd, Nat.zero_add, not_false_eq_true, not_true_eq_false, d9, LKX', d10, V214.k6, LN2, d11]
    refine W_loop (fun tm hh => Keeps h14 hh ∧ tm 5 = pt h1.size ∧ tm 10 = pt h10.size ∧ tm 12 = .int .i64 (cl2.length : Int) ∧ ∃ i : Nat, tm 13 = .int .i64 (i : Int) ∧ i ≤ ll.length) (fun tm _ => (ll.length - intOf (tm 13)).toNat) ⟨Keeps.refl (Ch.wf K014), (by first | rfl | (simp only [wk, wt, wl, ↓reduceIte, Nat.reduceEqDiff, Nat.reduceAdd, Nat.zero_add, not_false_eq_true, not_true_eq_false]; done) | (simp only [wk, wt, wl, ↓reduceIte, Nat.reduceEqDiff, Nat.reduceAdd, Nat.zero_add, not_false_eq_true, not_true_eq_false]; rfl) | (simp only [wk, wt, wl, ↓reduceIte, Nat.reduceEqDiff, Nat.reduceAdd, Nat.zero_add, not_false_eq_true, not_true_eq_false, pt]; done) | (simp only [wk, wt, wl, ↓reduceIte, Nat.reduceEqDiff, Nat.reduceAdd, Nat.zero_add, not_false_eq_true, not_true_eq_false, pt]; rfl)), (by first | rfl | (simp only [wk, wt, wl, ↓reduceIte, Nat.reduceEqDiff, Nat.reduceAdd, Nat.zero_add, not_false_eq_true, not_true_eq_false]; done) | (simp only [wk, wt, wl, ↓reduceIte, Nat.reduceEqDiff, Nat.reduceAdd, Nat.zero_add, not_false_eq_true, not_true_eq_false]; rfl) | (simp only [wk, wt, wl, ↓reduceIte, Nat.reduceEqDiff, Nat.reduceAdd, Nat.zero_add, not_false_eq_true, not_true_eq_false, pt]; done) | (simp only [wk, wt, wl, ↓reduceIte, Nat.reduceEqDiff, Nat.reduceAdd, Nat.zero_add, not_false_eq_true, not_true_eq_false, pt]; rfl)), (by first | rfl | (simp only [wk, wt, wl, ↓reduceIte, Nat.reduceEqDiff, Nat.reduceAdd, Nat.zero_add, not_false_eq_true, not_true_eq_false]; done) | (simp only [wk, wt, wl, ↓reduceIte, Nat.reduceEqDiff, Nat.reduceAdd, Nat.zero_add, not_false_eq_true, not_true_eq_false]; rfl)), 0, (by first | rfl | (simp only [wk, wt, wl, ↓reduceIte, Nat.reduceEqDiff, Nat.reduceAdd, Nat.zero_add, not_false_eq_true, not_true_eq_false]; done) | (simp only [wk, wt, wl, ↓reduceIte, Nat.reduceEqDiff, Nat.reduceAdd, Nat.zero_add, not_false_eq_true, not_true_eq_false]; rfl)), by omega⟩ ?_
    rintro tm hh ⟨K, t5, t10, t12, i, t13, hi⟩
    have KH := K014.trans K
    have VX := Keeps.var (Ch.wf K014) K V214
    have VZ := Keeps.var (Ch.wf K014) K V14
    simp only [wk, wt, wl, ↓reduceIte, Nat.reduceEqDiff, Nat.reduceAdd, Nat.zero_add, not_false_eq_true, not_true_eq_false, t5, t10, t12, t13]
    refine condK_dec (fun hd => ?_) (fun hd => ?_)
    · have hi2 : i < ll.length := by omega
      obtain ⟨q', hq'⟩ : ∃ q', ll[i]? = some q' := ⟨_, List.getElem?_eq_getElem hi2⟩
      have hqz : (ll ++ qs)[i]? = some q' := by rw [List.getElem?_append_left hi2]; exact hq'
      obtain ⟨c1, hc1, Q1⟩ := (RePs.ch K (fun _ e => e.elim) _ _ A14).at hqz
      obtain ⟨c2, hc2, Q2⟩ := (RePs.ch K (fun _ e => e.elim) _ _ A2).at hq'
      have IX := Rd.index (RS.keeps S14 K) underlying24 asz26 (q := .i64) (i := (i : Int)) (by omega) (by omega)
      have IX2 := Rd.index (RS.keeps S2 K) underlying24 asz26 (q := .i64) (i := (i : Int)) (by omega) (by omega)
      rw [Int.toNat_natCast] at IX IX2
      have LX : aload prog hh 26 (eltA cz.pv 7 i) = some (reV c1) := RS.agg (RS.keeps S14 K) reC_len underlying26 rfl asz26 hc1
      have LX2 : aload prog hh 26 (eltA cx.pv 7 i) = some (reV c2) := RS.agg (RS.keeps S2 K) reC_len underlying26 rfl asz26 hc2
      have wi : IntKind.i64.wrap ((i : Int) + 1) = ((i + 1 : Nat) : Int) := by rw [IntWalk.i64_in _ (by omega)]; omega
      refine adraw_order [(0, false), (1, false), (2, false), (3, false), (4, false), (5, false), (6, false), (7, false), (8, false), (9, false), (10, true), (11, false)] mixed (by kernel_rfl) (by kernel_rfl) (by kernel_rfl) (by with_reducible repeat (first | exact PF_retK | refine PF_thenK ?_ | refine PF_blockK ?_)) ?_
      simp only [wk, wt, wl, ↓reduceIte, Nat.reduceEqDiff, Nat.reduceAdd, Nat.zero_add, not_false_eq_true, not_true_eq_false, t5, t10, t12, t13, pt, VX.k6, VZ.k6, IX, LX, IX2, LX2]
      refine (same_all _ q' c1 c2 _ _ _ (Nat.lt_succ_self _) (okps.at hq') Q1 Q2).use ?_
      rintro _ h15 ⟨rfl, K15⟩
      simp only [wk, wt, wl, ↓reduceIte, Nat.reduceEqDiff, Nat.reduceAdd, Nat.zero_add, not_false_eq_true, not_true_eq_false, dK_t]
      refine ⟨K15.reads (Ch.wf KH), ?_⟩
      simp only [wk, wt, wl, ↓reduceIte, Nat.reduceEqDiff, Nat.reduceAdd, Nat.zero_add, not_false_eq_true, not_true_eq_false, t5, t10, t12, t13, pt, wi, intOf_int]
      exact ⟨⟨K.trans K15, i + 1, rfl, by omega⟩, by omega⟩
    · simp only [wk, wt, wl, ↓reduceIte, Nat.reduceEqDiff, Nat.reduceAdd, Nat.zero_add, not_false_eq_true, not_true_eq_false]
      refine (awake_ok).use ?_
      rintro _ h16 ⟨rfl, K16⟩
      simp only [wk, wt, wl, ↓reduceIte, Nat.reduceEqDiff, Nat.reduceAdd, Nat.zero_add, not_false_eq_true, not_true_eq_false]
      exact KH.trans K16
end Go.Proofs.Ytnnkcbkenofhmaa.Am
end
section
/- Patterns, the document's reader: where it is; contracts of is, ends, kind, one, fail, number, by walks. -/
set_option linter.unusedSimpArgs false
set_option linter.unusedVariables false
set_option maxHeartbeats 4000000
set_option maxRecDepth 20000
namespace Go.Proofs.Ytnnkcbkenofhmaa.Am
open Go Go.RowKit Go.Proofs.Try
/-- Does a text stand there? -/
def isM : List Int → List Int → Bool
  | [], _ => true
  | _ :: _, [] => false
  | b :: bs, x :: l => if x = b then isM bs l else false
theorem isM_bar {l : List Int} : isM [92, 124] l = barM l := by
  rcases l with _ | ⟨x, _ | ⟨y, l⟩⟩
  · rfl
  · by_cases h : x = 92 <;> simp [isM, barM, h]
  · by_cases h : x = 92 <;> by_cases h2 : y = 124 <;> simp [isM, barM, h, h2]
theorem isM_ended {l : List Int} (h : l ≠ []) : endedM l = (isM [92, 124] l || isM [92, 41] l) := by
  rcases l with _ | ⟨x, _ | ⟨y, l⟩⟩
  · exact absurd rfl h
  · by_cases h : x = 92 <;> simp [isM, endedM, h]
  · by_cases h : x = 92 <;> by_cases h2 : y = 124 <;> by_cases h3 : y = 41 <;> simp [isM, endedM, h, h2, h3]
/-- The cells of the document's reader. -/
def qc (pv : Value) (k g o e : Int) : List Value := [pv, .int .i64 k, .int .i64 g, .int .i64 o, .int .i64 e]
/-- The document's reader: at such a place of the pattern, so many groups, so many open, what is wrong. -/
def QD (h : Heap) (rb : Nat) (pv : Value) (P : List Int) (k : Nat) (g o e : Int) : Prop := Var h rb (qc pv k g o e) ∧ RdI prog h .i32 pv P ∧ ∀ b, blkOf pv = some b → b < rb
section
variable {h h' : Heap} {rb : Nat} {pv : Value} {P : List Int} {k : Nat} {g o e : Int}
theorem QD.ch {D : Nat → Prop} (R : QD h rb pv P k g o e) (H : Wf h) (C : Ch D h h') (hD : ∀ b, D b → rb < b) : QD h' rb pv P k g o e :=
  ⟨Ch.var H C R.1 (fun x => by have := hD _ x; omega), Ch.rd C R.2.1 (fun b x y => by have := hD _ y; have := R.2.2 b x; omega), R.2.2⟩
theorem QD.keeps (R : QD h rb pv P k g o e) (H : Wf h) (K : Keeps h h') : QD h' rb pv P k g o e := R.ch H K fun b x => x.elim
theorem QD.lt (R : QD h rb pv P k g o e) (H : Wf h) : rb < h.size := R.1.lt H
theorem QD.l0 (R : QD h rb pv P k g o e) : aload prog h 22 ⟨rb, 0, none⟩ = some pv := R.1.load1 (P := prog) (t := 22) underlying22 rfl (i := 0)
theorem QD.l1 (R : QD h rb pv P k g o e) : aload prog h 3 ⟨rb, 1, none⟩ = some (.int .i64 k) := R.1.load1 (P := prog) (t := 3) underlying3 rfl (i := 1)
theorem QD.l2 (R : QD h rb pv P k g o e) : aload prog h 3 ⟨rb, 2, none⟩ = some (.int .i64 g) := R.1.load1 (P := prog) (t := 3) underlying3 rfl (i := 2)
theorem QD.l3 (R : QD h rb pv P k g o e) : aload prog h 3 ⟨rb, 3, none⟩ = some (.int .i64 o) := R.1.load1 (P := prog) (t := 3) underlying3 rfl (i := 3)
theorem QD.l4 (R : QD h rb pv P k g o e) : aload prog h 27 ⟨rb, 4, none⟩ = some (.int .i64 e) := R.1.load1 (P := prog) (t := 27) underlying27 rfl (i := 4)
theorem QD.rd (R : QD h rb pv P k g o e) (C : Ch (Bx rb) h h') : RdI prog h' .i32 pv P := Ch.rd C R.2.1 fun b x y => by have := R.2.2 b x; have : b = rb := y; omega
theorem QD.setK (R : QD h rb pv P k g o e) (H : Wf h) (k' : Nat) : ∃ h1, storeV prog h 3 (.pointer (some ⟨rb, 1, none⟩)) (.int .i64 (k' : Int)) = some (undef, h1) ∧ QD h1 rb pv P k' g o e ∧ Ch (Bx rb) h h1 ∧ h1.size = h.size := by
  obtain ⟨h1, q1, q2, q3, q4⟩ := R.1.store1 (P := prog) (t := 3) (v := .int .i64 (k' : Int)) (i := 1) H asz3 (by simp [qc]) rfl
  exact ⟨h1, q1, ⟨q2, R.rd q3, R.2.2⟩, q3, q4⟩
theorem QD.setG (R : QD h rb pv P k g o e) (H : Wf h) (g' : Int) : ∃ h1, storeV prog h 3 (.pointer (some ⟨rb, 2, none⟩)) (.int .i64 g') = some (undef, h1) ∧ QD h1 rb pv P k g' o e ∧ Ch (Bx rb) h h1 ∧ h1.size = h.size := by
  obtain ⟨h1, q1, q2, q3, q4⟩ := R.1.store1 (P := prog) (t := 3) (v := .int .i64 g') (i := 2) H asz3 (by simp [qc]) rfl
  exact ⟨h1, q1, ⟨q2, R.rd q3, R.2.2⟩, q3, q4⟩
theorem QD.setO (R : QD h rb pv P k g o e) (H : Wf h) (o' : Int) : ∃ h1, storeV prog h 3 (.pointer (some ⟨rb, 3, none⟩)) (.int .i64 o') = some (undef, h1) ∧ QD h1 rb pv P k g o' e ∧ Ch (Bx rb) h h1 ∧ h1.size = h.size := by
  obtain ⟨h1, q1, q2, q3, q4⟩ := R.1.store1 (P := prog) (t := 3) (v := .int .i64 o') (i := 3) H asz3 (by simp [qc]) rfl
  exact ⟨h1, q1, ⟨q2, R.rd q3, R.2.2⟩, q3, q4⟩
theorem QD.setE (R : QD h rb pv P k g o e) (H : Wf h) (e' : Int) : ∃ h1, storeV prog h 27 (.pointer (some ⟨rb, 4, none⟩)) (.int .i64 e') = some (undef, h1) ∧ QD h1 rb pv P k g o e' ∧ Ch (Bx rb) h h1 ∧ h1.size = h.size := by
  obtain ⟨h1, q1, q2, q3, q4⟩ := R.1.store1 (P := prog) (t := 27) (v := .int .i64 e') (i := 4) H asz27 (by simp [qc]) rfl
  exact ⟨h1, q1, ⟨q2, R.rd q3, R.2.2⟩, q3, q4⟩
end
/-- A variable for the answer is put and read. -/
theorem fin_q {h h0 : Heap} {rb vb : Nat} {pv : Value} {P : List Int} {k : Nat} {g o e : Int} {c d : RC} {p : Pat} {D : Nat → Prop} (H : Wf h) (V : Var h vb (reC c)) (PP : ReR h D p d) (hDv : D vb) (R : QD h rb pv P k g o e) (C : Ch (Bx rb) h0 h) (hv : h0.size ≤ vb) (hr : rb < h0.size) :
    ∃ h', storeV prog h 26 (.pointer (some ⟨vb, 0, none⟩)) (reV d) = some (undef, h') ∧ aload prog h' 26 ⟨vb, 0, none⟩ = some (reV d) ∧ ReR h' D p d ∧ QD h' rb pv P k g o e ∧ Ch (Bx rb) h0 h' := by
  obtain ⟨h', e1, V1, C1, z1⟩ := V.put H PP.one1.1 PP.one1.2
  exact ⟨h', e1, V1.re, ReR.ch C1 (fun b e => by rw [show b = vb from e]; exact hDv) p d PP, R.ch H C1 (fun b x => by omega), C.then C1 fun b e => .inl (by omega)⟩
/-- A text's bytes, one by one. -/
def Str (s : ByteArray) (bl : List Int) : Prop := s.size = bl.length ∧ bl.length ≤ 100 ∧ ∀ (i : Nat) (b : Int), bl[i]? = some b → aindex prog 9 (.string s) (.int .i64 (i : Int)) = some (.int .u8 b) ∧ 0 ≤ b ∧ b ≤ 255
theorem str1 {a : UInt8} : Str ⟨#[a]⟩ [(a.toNat : Int)] := by
  refine ⟨rfl, by simp, fun i b hb => ?_⟩
  rcases i with _ | i
  · cases hb
    have := a.toNat_lt
    exact ⟨by simp [aindex, underlying9]; rfl, by omega, by omega⟩
  · cases hb
theorem str2 {a c : UInt8} : Str ⟨#[a, c]⟩ [(a.toNat : Int), (c.toNat : Int)] := by
  refine ⟨rfl, by simp, fun i b hb => ?_⟩
  rcases i with _ | _ | i
  · cases hb
    have := a.toNat_lt
    exact ⟨by simp [aindex, underlying9]; rfl, by omega, by omega⟩
  · cases hb
    have := c.toNat_lt
    exact ⟨by simp [aindex, underlying9]; rfl, by omega, by omega⟩
  · cases hb
theorem cv8 {b : Int} (h1 : 0 ≤ b) (h2 : b ≤ 255) : ∀ h, aconv prog h 5 21 (.int .u8 b) = some (.int .i32 b) := fun h => by
  have w : IntKind.i32.wrap b = b := IntWalk.i32_in _ (by omega)
  simp [aconv, underlying5, underlying21, w]
theorem drop_none {P : List Int} {k : Nat} (h : P[k]? = none) : P.drop k = [] := List.drop_eq_nil_of_le (List.getElem?_eq_none_iff.1 h)
theorem is_ok {h : Heap} {rb : Nat} {pv : Value} {P : List Int} {k : Nat} {g o e : Int} (R : QD h rb pv P k g o e) {j : Nat} (hj : j ≤ 20000000) {s : ByteArray} {bl : List Int} (hs : Str s bl) :
    ACalls prog 30 #[pt rb, .int .i64 (j : Int), .string s] h (fun y h' => y = .bool (isM bl (P.drop j)) ∧ h' = h) := by
  refine acalls_of_W func30 rfl (by kernel_rfl) (by kernel_rfl) (by simp [ntmps30]) ?_
  have LS : abuiltin prog .len #[9] #[.string s] = some (.int .i64 (bl.length : Int)) := by simp [abuiltin, underlying9, hs.1]
  have hsl := hs.2.1
  simp only [wk, wt, wl, ↓reduceIte, Nat.reduceEqDiff, Nat.reduceAdd, Nat.zero_add, not_false_eq_true, not_true_eq_false]
  refine W_loop (fun tm hh => h = hh ∧ tm 0 = pt rb ∧ tm 1 = .int .i64 (j : Int) ∧ tm 2 = .string s ∧ ∃ i : Nat, tm 7 = .int .i64 (i : Int) ∧ i ≤ bl.length ∧ isM bl (P.drop j) = isM (bl.drop i) (P.drop (j + i))) (fun tm _ => (bl.length - intOf (tm 7)).toNat) ⟨rfl, (by first | rfl | (simp only [wk, wt, wl, ↓reduceIte, Nat.reduceEqDiff, Nat.reduceAdd, Nat.zero_add, not_false_eq_true, not_true_eq_false]; done) | (simp only [wk, wt, wl, ↓reduceIte, Nat.reduceEqDiff, Nat.reduceAdd, Nat.zero_add, not_false_eq_true, not_true_eq_false]; rfl) | (simp only [wk, wt, wl, ↓reduceIte, Nat.reduceEqDiff, Nat.reduceAdd, Nat.zero_add, not_false_eq_true, not_true_eq_false, pt]; done) | (simp only [wk, wt, wl, ↓reduceIte, Nat.reduceEqDiff, Nat.reduceAdd, Nat.zero_add, not_false_eq_true, not_true_eq_false, pt]; rfl)), (by first | rfl | (simp only [wk, wt, wl, ↓reduceIte, Nat.reduceEqDiff, Nat.reduceAdd, Nat.zero_add, not_false_eq_true, not_true_eq_false]; done) | (simp only [wk, wt, wl, ↓reduceIte, Nat.reduceEqDiff, Nat.reduceAdd, Nat.zero_add, not_false_eq_true, not_true_eq_false]; rfl)), (by first | rfl | (simp only [wk, wt, wl, ↓reduceIte, Nat.reduceEqDiff, Nat.reduceAdd, Nat.zero_add, not_false_eq_true, not_true_eq_false]; done) | (simp only [wk, wt, wl, ↓reduceIte, Nat.reduceEqDiff, Nat.reduceAdd, Nat.zero_add, not_false_eq_true, not_true_eq_false]; rfl)), 0, (by first | rfl | (simp only [wk, wt, wl, ↓reduceIte, Nat.reduceEqDiff, Nat.reduceAdd, Nat.zero_add, not_false_eq_true, not_true_eq_false]; done) | (simp only [wk, wt, wl, ↓reduceIte, Nat.reduceEqDiff, Nat.reduceAdd, Nat.zero_add, not_false_eq_true, not_true_eq_false]; rfl)), by omega, rfl⟩ ?_
  rintro tm _ ⟨rfl, t0, t1, t2, i, t7, hi, hM⟩
  simp only [wk, wt, wl, ↓reduceIte, Nat.reduceEqDiff, Nat.reduceAdd, Nat.zero_add, not_false_eq_true, not_true_eq_false, t0, t1, t2, t7, LS]
  refine condK_dec (fun hd => ?_) (fun hd => ?_)
  · have hi2 : i < bl.length := by omega
    obtain ⟨b, hb⟩ : ∃ b, bl[i]? = some b := ⟨_, List.getElem?_eq_getElem hi2⟩
    obtain ⟨IS, hb0, hb1⟩ := hs.2.2 i b hb
    have cv := cv8 hb0 hb1
    have wi : IntKind.i64.wrap ((i : Int) + 1) = ((i + 1 : Nat) : Int) := by rw [IntWalk.i64_in _ (by omega)]; omega
    have wj : IntKind.i64.wrap ((j : Int) + (i : Int)) = ((j + i : Nat) : Int) := by rw [IntWalk.i64_in _ (by omega)]; omega
    have LP := R.2.1.ln (n := (P.length : Int)) rfl
    rw [dropAt hb] at hM
    cases hx : P[j + i]? with
    | none =>
      have hle := List.getElem?_eq_none_iff.1 hx
      have d1 : decide ((P.length : Int) ≤ ((j + i : Nat) : Int)) = true := decide_eq_true (by omega)
      rw [drop_none hx] at hM
      refine adraw_order [(0, false), (1, false), (2, false), (3, false), (4, false), (5, false), (6, false), (7, false), (8, false), (9, false), (10, false), (11, false), (12, false), (13, false), (14, false), (15, false), (16, false), (17, false), (18, false), (19, false), (20, false), (21, false), (22, false), (23, false), (24, false)] mixed (by kernel_rfl) (by kernel_rfl) (by kernel_rfl) (by with_reducible repeat (first | exact PF_retK | refine PF_thenK ?_ | refine PF_blockK ?_)) ?_
      simp only [wk, wt, wl, ↓reduceIte, Nat.reduceEqDiff, Nat.reduceAdd, Nat.zero_add, not_false_eq_true, not_true_eq_false, t0, t1, t2, t7, pt, wj, R.l0, LP, d1]
      exact ⟨by rw [hM]; rfl, trivial⟩
    | some x =>
      have hlt := (List.getElem?_eq_some_iff.1 hx).1
      have d1 : decide ((P.length : Int) ≤ ((j + i : Nat) : Int)) = false := decide_eq_false (by omega)
      have IX := (R.2.1.ix hx).1
      have LX := (R.2.1.ix hx).2
      rw [dropAt hx] at hM
      simp only [isM] at hM
      by_cases c : x = b
      · have d2 : decide (¬ x = b) = false := by simp [c]
        rw [if_pos c] at hM
        refine adraw_order [(0, false), (1, false), (2, false), (3, false), (4, false), (5, false), (6, false), (7, false), (8, false), (9, false), (10, false), (11, false), (12, false), (13, false), (14, false), (15, false), (16, false), (17, false), (18, false), (19, false), (20, false), (21, false), (22, false), (23, false), (24, false)] mixed (by kernel_rfl) (by kernel_rfl) (by kernel_rfl) (by with_reducible repeat (first | exact PF_retK | refine PF_thenK ?_ | refine PF_blockK ?_)) ?_
        simp only [wk, wt, wl, ↓reduceIte, Nat.reduceEqDiff, Nat.reduceAdd, Nat.zero_add, not_false_eq_true, not_true_eq_false, t0, t1, t2, t7, pt, wj, R.l0, LP, d1, IX, LX, IS, cv, d2, wi, intOf_int]
        exact ⟨⟨i + 1, rfl, by omega, hM⟩, by omega⟩
      · have d2 : decide (¬ x = b) = true := by simp [c]
        rw [if_neg c] at hM
        refine adraw_order [(0, false), (1, false), (2, false), (3, false), (4, false), (5, false), (6, false), (7, false), (8, false), (9, false), (10, false), (11, false), (12, false), (13, false), (14, false), (15, false), (16, false), (17, false), (18, false), (19, false), (20, false), (21, false), (22, false), (23, false), (24, false)] mixed (by kernel_rfl) (by kernel_rfl) (by kernel_rfl) (by with_reducible repeat (first | exact PF_retK | refine PF_thenK ?_ | refine PF_blockK ?_)) ?_
        simp only [wk, wt, wl, ↓reduceIte, Nat.reduceEqDiff, Nat.reduceAdd, Nat.zero_add, not_false_eq_true, not_true_eq_false, t0, t1, t2, t7, pt, wj, R.l0, LP, d1, IX, LX, IS, cv, d2]
        exact ⟨by rw [hM], trivial⟩
  · have : i = bl.length := by omega
    rw [this, List.drop_length] at hM
    simp only [wk, wt, wl, ↓reduceIte, Nat.reduceEqDiff, Nat.reduceAdd, Nat.zero_add, not_false_eq_true, not_true_eq_false]
    exact ⟨by rw [hM]; rfl, trivial⟩
theorem ends_ok {h : Heap} {rb : Nat} {pv : Value} {P : List Int} {k : Nat} {g o e : Int} (R : QD h rb pv P k g o e) {j : Nat} (hj : j ≤ 20000000) :
    ACalls prog 35 #[pt rb, .int .i64 (j : Int)] h (fun y h' => y = .bool (endedM (P.drop j)) ∧ h' = h) := by
  refine acalls_of_W func35 rfl (by kernel_rfl) (by kernel_rfl) (by simp [ntmps35]) ?_
  have LP := R.2.1.ln (n := (P.length : Int)) rfl
  by_cases c : P.length ≤ j
  · have d1 : decide ((P.length : Int) ≤ (j : Int)) = true := decide_eq_true (by omega)
    simp only [wk, wt, wl, ↓reduceIte, Nat.reduceEqDiff, Nat.reduceAdd, Nat.zero_add, not_false_eq_true, not_true_eq_false, pt, R.l0, LP, d1]
    rw [List.drop_eq_nil_of_le c]; exact ⟨rfl, trivial⟩
  · have d1 : decide ((P.length : Int) ≤ (j : Int)) = false := decide_eq_false (by omega)
    have hne : P.drop j ≠ [] := fun e => by have := List.drop_eq_nil_iff.1 e; omega
    rw [isM_ended hne]
    simp only [wk, wt, wl, ↓reduceIte, Nat.reduceEqDiff, Nat.reduceAdd, Nat.zero_add, not_false_eq_true, not_true_eq_false, pt, R.l0, LP, d1]
    refine (is_ok R hj (str2 (a := 92) (c := 124))).use_pure ?_
    cases h1 : isM [92, 124] (P.drop j) with
    | true =>
      have h1' : isM [((92 : UInt8).toNat : Int), ((124 : UInt8).toNat : Int)] (P.drop j) = true := h1
      simp only [wk, wt, wl, ↓reduceIte, Nat.reduceEqDiff, Nat.reduceAdd, Nat.zero_add, not_false_eq_true, not_true_eq_false, h1']
      exact ⟨rfl, trivial⟩
    | false =>
      have h1' : isM [((92 : UInt8).toNat : Int), ((124 : UInt8).toNat : Int)] (P.drop j) = false := h1
      simp only [wk, wt, wl, ↓reduceIte, Nat.reduceEqDiff, Nat.reduceAdd, Nat.zero_add, not_false_eq_true, not_true_eq_false, h1']
      refine (is_ok R hj (str2 (a := 92) (c := 41))).use_pure ?_
      simp only [wk, wt, wl, ↓reduceIte, Nat.reduceEqDiff, Nat.reduceAdd, Nat.zero_add, not_false_eq_true, not_true_eq_false]
      exact ⟨rfl, trivial⟩
theorem kind_ok {h : Heap} {rb : Nat} {pv : Value} {P : List Int} {k : Nat} {g o e : Int} (R : QD h rb pv P k g o e) {kd j : Int} {k' : Nat} (hk : (k : Int) + j = k') (hk2 : k' ≤ 20000000) :
    ACalls prog 42 #[pt rb, .int .i64 kd, .int .i64 j] h (fun y h' => y = reV { rc0 with k := kd } ∧ QD h' rb pv P k' g o e ∧ Ch (Bx rb) h h') := by
  refine acalls_of_W' func42 rfl (by kernel_rfl) (by kernel_rfl) (by simp [ntmps42]) ?_
  intro H
  have hr := R.lt H
  have N1 := Keeps.new H 26 (reC rc0)
  have V1 := Var.new (e := 26) H (cs := reC rc0)
  have R1 := R.keeps H N1
  have wkk : IntKind.i64.wrap ((k : Int) + j) = (k' : Int) := by rw [hk, IntWalk.i64_in _ (by omega)]
  obtain ⟨h2, e2, R2, C2, z2⟩ := R1.setK (Ch.wf N1) k'
  have V2 := Ch.var (Ch.wf N1) C2 V1 (by omega)
  obtain ⟨h3, e3, l3, P3, R3, C3⟩ := fin_q (h0 := h) (D := fun b => b = h.size) (p := pK kd) (d := { rc0 with k := kd }) (Ch.wf C2) V2 ReR.k rfl R2 ((N1.mono fun _ e => e.elim).then C2 fun b e => .inr e) (Nat.le_refl _) hr
  simp only [wk, wt, wl, ↓reduceIte, Nat.reduceEqDiff, Nat.reduceAdd, Nat.zero_add, not_false_eq_true, not_true_eq_false, pt, newRe, newSz, R1.l1, wkk, e2, build_rek, e3, l3]
  exact ⟨R3, C3⟩
theorem one_ok {h : Heap} {rb : Nat} {pv : Value} {P : List Int} {k : Nat} {g o e : Int} (R : QD h rb pv P k g o e) {x j : Int} {k' : Nat} (hk : (k : Int) + j = k') (hk2 : k' ≤ 20000000) :
    ACalls prog 44 #[pt rb, .int .i32 x, .int .i64 j] h (fun y h' => y = reV { rc0 with k := 1, r := x } ∧ QD h' rb pv P k' g o e ∧ Ch (Bx rb) h h') := by
  refine acalls_of_W' func44 rfl (by kernel_rfl) (by kernel_rfl) (by simp [ntmps44]) ?_
  intro H
  have hr := R.lt H
  have N1 := Keeps.new H 26 (reC rc0)
  have V1 := Var.new (e := 26) H (cs := reC rc0)
  have R1 := R.keeps H N1
  have wkk : IntKind.i64.wrap ((k : Int) + j) = (k' : Int) := by rw [hk, IntWalk.i64_in _ (by omega)]
  obtain ⟨h2, e2, R2, C2, z2⟩ := R1.setK (Ch.wf N1) k'
  have V2 := Ch.var (Ch.wf N1) C2 V1 (by omega)
  obtain ⟨h3, e3, l3, P3, R3, C3⟩ := fin_q (h0 := h) (D := fun b => b = h.size) (p := pR x) (d := { rc0 with k := 1, r := x }) (Ch.wf C2) V2 ReR.r rfl R2 ((N1.mono fun _ e => e.elim).then C2 fun b e => .inr e) (Nat.le_refl _) hr
  simp only [wk, wt, wl, ↓reduceIte, Nat.reduceEqDiff, Nat.reduceAdd, Nat.zero_add, not_false_eq_true, not_true_eq_false, pt, newRe, newSz, R1.l1, wkk, e2, build_rer, e3, l3]
  exact ⟨R3, C3⟩
theorem fail_ok {h : Heap} {rb : Nat} {pv : Value} {P : List Int} {k : Nat} {g o : Int} (R : QD h rb pv P k g o 0) {e : Int} :
    ACalls prog 45 #[pt rb, .int .i64 e] h (fun y h' => y = reV rc0 ∧ QD h' rb pv P k g o e ∧ Ch (Bx rb) h h') := by
  refine acalls_of_W' func45 rfl (by kernel_rfl) (by kernel_rfl) (by simp [ntmps45]) ?_
  intro H
  have hr := R.lt H
  have N1 := Keeps.new H 26 (reC rc0)
  have V1 := Var.new (e := 26) H (cs := reC rc0)
  have R1 := R.keeps H N1
  have d0 : decide ((0 : Int) = 0) = true := rfl
  obtain ⟨h2, e2, R2, C2, z2⟩ := R1.setE (Ch.wf N1) e
  have V2 := Ch.var (Ch.wf N1) C2 V1 (by omega)
  obtain ⟨h3, e3, l3, P3, R3, C3⟩ := fin_q (h0 := h) (D := fun b => b = h.size) (p := pE) (d := rc0) (Ch.wf C2) V2 ReR.e rfl R2 ((N1.mono fun _ e => e.elim).then C2 fun b e => .inr e) (Nat.le_refl _) hr
  simp only [wk, wt, wl, ↓reduceIte, Nat.reduceEqDiff, Nat.reduceAdd, Nat.zero_add, not_false_eq_true, not_true_eq_false, pt, newRe, newSz, R1.l4, d0, e2, build_re0, e3, l3]
  exact ⟨R3, C3⟩
theorem number_ok {h : Heap} {rb : Nat} {pv : Value} {P : List Int} {k : Nat} {g o e : Int} (R : QD h rb pv P k g o e) {j : Nat} (hj : j ≤ P.length) (hP : P.length ≤ 10000000) :
    ACalls prog 47 #[pt rb, .int .i64 (j : Int)] h (fun y h' => ∃ i : Nat, y = .tuple #[.int .i64 (digM 0 false (P.drop j)).1, .int .i64 (i : Int)] ∧ j ≤ i ∧ i ≤ P.length ∧ (digM 0 false (P.drop j)).2.1 = P.drop i ∧ (digM 0 false (P.drop j)).2.2 = decide (j < i) ∧ h' = h) := by
  refine acalls_of_W func47 rfl (by kernel_rfl) (by kernel_rfl) (by simp [ntmps47]) ?_
  have LP := R.2.1.ln (n := (P.length : Int)) rfl
  simp only [wk, wt, wl, ↓reduceIte, Nat.reduceEqDiff, Nat.reduceAdd, Nat.zero_add, not_false_eq_true, not_true_eq_false]
  refine W_loop (fun tm hh => h = hh ∧ tm 0 = pt rb ∧ ∃ (i : Nat) (n : Int), tm 1 = .int .i64 (i : Int) ∧ tm 6 = .int .i64 n ∧ j ≤ i ∧ i ≤ P.length ∧ 0 ≤ n ∧ n ≤ 101 ∧ digM 0 false (P.drop j) = digM n (decide (j < i)) (P.drop i))
    (fun tm _ => (P.length - intOf (tm 1)).toNat) ⟨rfl, (by first | rfl | (simp only [wk, wt, wl, ↓reduceIte, Nat.reduceEqDiff, Nat.reduceAdd, Nat.zero_add, not_false_eq_true, not_true_eq_false]; done) | (simp only [wk, wt, wl, ↓reduceIte, Nat.reduceEqDiff, Nat.reduceAdd, Nat.zero_add, not_false_eq_true, not_true_eq_false]; rfl) | (simp only [wk, wt, wl, ↓reduceIte, Nat.reduceEqDiff, Nat.reduceAdd, Nat.zero_add, not_false_eq_true, not_true_eq_false, pt]; done) | (simp only [wk, wt, wl, ↓reduceIte, Nat.reduceEqDiff, Nat.reduceAdd, Nat.zero_add, not_false_eq_true, not_true_eq_false, pt]; rfl)), j, 0, (by first | rfl | (simp only [wk, wt, wl, ↓reduceIte, Nat.reduceEqDiff, Nat.reduceAdd, Nat.zero_add, not_false_eq_true, not_true_eq_false]; done) | (simp only [wk, wt, wl, ↓reduceIte, Nat.reduceEqDiff, Nat.reduceAdd, Nat.zero_add, not_false_eq_true, not_true_eq_false]; rfl)), (by first | rfl | (simp only [wk, wt, wl, ↓reduceIte, Nat.reduceEqDiff, Nat.reduceAdd, Nat.zero_add, not_false_eq_true, not_true_eq_false]; done) | (simp only [wk, wt, wl, ↓reduceIte, Nat.reduceEqDiff, Nat.reduceAdd, Nat.zero_add, not_false_eq_true, not_true_eq_false]; rfl)), Nat.le_refl _, hj, by omega, by omega, by rw [decide_eq_false (Nat.lt_irrefl j)]⟩ ?_
  rintro tm _ ⟨rfl, t0, i, n, t1, t6, hji, hi, hn0, hn1, hg⟩
  have fin : ∀ {r : Int × List Int × Bool}, digM n (decide (j < i)) (P.drop i) = (n, P.drop i, decide (j < i)) → digM 0 false (P.drop j) = (n, P.drop i, decide (j < i)) := fun q => hg.trans q
  cases hx : P[i]? with
  | none =>
    have hle := List.getElem?_eq_none_iff.1 hx
    have d0 : decide ((i : Int) < (P.length : Int)) = false := decide_eq_false (by omega)
    have hE : digM 0 false (P.drop j) = (n, P.drop i, decide (j < i)) := by rw [hg, drop_none hx]; rfl
    simp only [wk, wt, wl, ↓reduceIte, Nat.reduceEqDiff, Nat.reduceAdd, Nat.zero_add, not_false_eq_true, not_true_eq_false, t0, t1, t6, pt, R.l0, LP, d0]
    rw [hE]
    exact ⟨i, rfl, hji, hi, rfl, rfl, trivial⟩
  | some x =>
    have hlt := (List.getElem?_eq_some_iff.1 hx).1
    have d0 : decide ((i : Int) < (P.length : Int)) = true := decide_eq_true (by omega)
    have IX := (R.2.1.ix hx).1
    have LX := (R.2.1.ix hx).2
    rw [dropAt hx] at hg
    by_cases c1 : 48 ≤ x
    · have d1 := decide_eq_true c1
      by_cases c2 : x ≤ 57
      · have d2 := decide_eq_true c2
        rw [digM_step ⟨c1, c2⟩] at hg
        have M1 := kmin_spec (n * 10 + (x - 48)) 101
        have w1 : IntKind.i64.wrap (n * 10) = n * 10 := IntWalk.i64_in _ (by omega)
        have w2 : IntKind.i32.wrap (x - 48) = x - 48 := IntWalk.i32_in _ (by omega)
        have w3 : IntKind.i64.wrap (x - 48) = x - 48 := IntWalk.i64_in _ (by omega)
        have w4 : IntKind.i64.wrap (n * 10 + (x - 48)) = n * 10 + (x - 48) := IntWalk.i64_in _ (by omega)
        have w5 : IntKind.i64.wrap ((i : Int) + 1) = ((i + 1 : Nat) : Int) := by rw [IntWalk.i64_in _ (by omega)]; omega
        have cv : ∀ h, aconv prog h 21 3 (.int .i32 (x - 48)) = some (.int .i64 (x - 48)) := fun h => by simp [aconv, underlying21, underlying3, w3]
        simp only [wk, wt, wl, ↓reduceIte, Nat.reduceEqDiff, Nat.reduceAdd, Nat.zero_add, not_false_eq_true, not_true_eq_false, t0, t1, t6, pt, R.l0, LP, d0, IX, LX, d1, d2, w1, w2, cv, w4, mnV, w5, intOf_int]
        exact ⟨⟨i + 1, _, rfl, rfl, by omega, by omega, by omega, by omega, by rw [hg, decide_eq_true (by omega : j < i + 1)]⟩, by omega⟩
      · have d2 := decide_eq_false c2
        rw [digM_stop (fun e => c2 e.2)] at hg
        simp only [wk, wt, wl, ↓reduceIte, Nat.reduceEqDiff, Nat.reduceAdd, Nat.zero_add, not_false_eq_true, not_true_eq_false, t0, t1, t6, pt, R.l0, LP, d0, IX, LX, d1, d2]
        rw [hg]
        exact ⟨i, rfl, hji, hi, (dropAt hx).symm, rfl, trivial⟩
    · have d1 := decide_eq_false c1
      rw [digM_stop (fun e => c1 e.1)] at hg
      simp only [wk, wt, wl, ↓reduceIte, Nat.reduceEqDiff, Nat.reduceAdd, Nat.zero_add, not_false_eq_true, not_true_eq_false, t0, t1, t6, pt, R.l0, LP, d0, IX, LX, d1]
      rw [hg]
      exact ⟨i, rfl, hji, hi, (dropAt hx).symm, rfl, trivial⟩
end Go.Proofs.Ytnnkcbkenofhmaa.Am
end
section
/- Patterns, the document's reader: contract of repeat, by a walk. -/
set_option linter.unusedSimpArgs false
set_option linter.unusedVariables false
set_option maxHeartbeats 4000000
set_option maxRecDepth 20000
namespace Go.Proofs.Ytnnkcbkenofhmaa.Am
open Go Go.RowKit Go.Proofs.Try
theorem rep_cases {p : Pat} {l : List Int} (h : repM p l ≠ .ok none) : (∃ t, l = 42 :: t) ∨ (∃ t, l = 92 :: 123 :: t) := by
  rcases l with _ | ⟨x, _ | ⟨y, l⟩⟩
  · exact absurd rfl h
  · by_cases c : x = 42
    · exact .inl ⟨_, by rw [c]⟩
    · exact absurd (by simp [repM, peekM, c]) h
  · by_cases c : x = 42
    · exact .inl ⟨_, by rw [c]⟩
    · by_cases c2 : x = 92
      · by_cases c3 : y = 123
        · exact .inr ⟨l, by rw [c2, c3]⟩
        · exact absurd (by simp [repM, peekM, c2, c3]) h
      · exact absurd (by simp [repM, peekM, c, c2]) h
theorem rep_star {p : Pat} {t : List Int} : repM p (42 :: t) = .ok (some (pStar 0 (-1) p, t)) := by
  rcases t with _ | ⟨y, t⟩ <;> rfl
theorem drop_next {P : List Int} {k : Nat} {x : Int} {t : List Int} (h : P.drop k = x :: t) : P.drop (k + 1) = t ∧ k + 1 ≤ P.length := by
  have h1 : (P.drop k).drop 1 = t := by rw [h]; rfl
  rw [List.drop_drop] at h1
  refine ⟨h1, ?_⟩
  have := congrArg List.length h
  simp at this; omega
/-- The part of a repetition, in a new variable. -/
theorem star_q {h : Heap} {rb vb : Nat} {pv : Value} {P : List Int} {k : Nat} {g o e lo hi : Int} {p : Pat} {c c0 : RC} {D D' : Nat → Prop} (R : QD h rb pv P k g o e) (H : Wf h) (V : Var h vb (reC c0)) (PP : ReR h D' p c) (hv : rb < vb) (hDv : D' vb) (hD : ∀ b, D b → D' b ∧ b < h.size) :
    ∃ h3, storeV prog (h.new 26 (reC c)) 26 (.pointer (some ⟨vb, 0, none⟩)) (reV { rc0 with k := 10, lo := lo, hi := hi, pv := .slice (some ⟨h.size, 0, none⟩) 1 2 }) = some (undef, h3) ∧
      aload prog h3 26 ⟨vb, 0, none⟩ = some (reV { rc0 with k := 10, lo := lo, hi := hi, pv := .slice (some ⟨h.size, 0, none⟩) 1 2 }) ∧ ReR h3 D (pStar lo hi p) { rc0 with k := 10, lo := lo, hi := hi, pv := .slice (some ⟨h.size, 0, none⟩) 1 2 } ∧ QD h3 rb pv P k g o e ∧ Ch (fun b => b = vb) h h3 := by
  have N := Keeps.new H 26 (reC c)
  have hlt := V.lt H
  obtain ⟨h3, e3, V3, C3, z3⟩ := (Keeps.var H N V).put (Ch.wf N) (d := { rc0 with k := 10, lo := lo, hi := hi, pv := .slice (some ⟨h.size, 0, none⟩) 1 2 }) rfl rfl
  have C03 : Ch (fun b => b = vb) h h3 := (N.mono (D' := fun b => b = vb) fun _ e => e.elim).then C3 fun b e => .inr e
  refine ⟨h3, e3, V3.re, ReR.ps (l := [c]) (Ch.rd C3 (Rd.new H asz26 rfl) fun b e f => ?_) (fun b e f => ?_) (RePs.one (ReR.weak (fun b e => (hD b e).1) p c (ReR.ch C03 (fun b e => by rw [show b = vb from e]; exact hDv) p c PP))), R.ch H C03 (fun b e => by omega), C03⟩
  · have e2 : h.size = b := by cases e; rfl
    omega
  · have e2 : h.size = b := by cases e; rfl
    have := (hD b f).2
    omega
theorem repeatQ_ok {h : Heap} {rb : Nat} {pv : Value} {P : List Int} {k : Nat} {g o : Int} (R : QD h rb pv P k g o 0) (hP : P.length ≤ 10000000) {p : Pat} {c : RC} {D : Nat → Prop} (PP : ReR h D p c) (hD : ∀ b, D b → b < h.size) (hDr : D rb) (hne : repM p (P.drop k) ≠ .ok none) :
    ACalls prog 37 #[pt rb, reV c] h (fun y h' => ∃ q c', y = reV c' ∧ ReR h' D q c' ∧ Ch (Bx rb) h h' ∧ ((∃ k' : Nat, repM p (P.drop k) = .ok (some (q, P.drop k')) ∧ k' ≤ P.length ∧ QD h' rb pv P k' g o 0) ∨ (∃ (e : Int) (k' : Nat), repM p (P.drop k) = .error e ∧ e ≠ 0 ∧ QD h' rb pv P k' g o e))) := by
  refine acalls_of_W' func37 rfl (by kernel_rfl) (by kernel_rfl) (by simp [ntmps37]) ?_
  intro H
  have hr := R.lt H
  have N1 := Keeps.new H 26 (reC c)
  have N2 := Keeps.new (Ch.wf N1) 26 (reC rc0)
  have V2 := Var.new (e := 26) (Ch.wf N1) (cs := reC rc0)
  have V1 := Keeps.var (Ch.wf N1) N2 (Var.new (e := 26) H (cs := reC c))
  have K2 := N1.trans N2
  have R2 := R.keeps H K2
  have PP2 : ReR _ (fun b => D b ∨ h.size ≤ b) p c := ReR.ch K2 (fun _ e => e.elim) p c (ReR.up (fun b e => e) p c PP)
  have C02 : Ch (Bx rb) h ((h.new 26 (reC c)).new 26 (reC rc0)) := K2.mono fun _ e => e.elim
  have hz2 : ((h.new 26 (reC c)).new 26 (reC rc0)).size = h.size + 2 := rfl
  have hz1 : (h.new 26 (reC c)).size = h.size + 1 := rfl
  rw [hz1] at V2
  have H2 := Ch.wf K2
  have hnr : (h.new 26 (reC c)).new 26 [.int .i64 0, .int .i32 0, .slice none 0 0, .bool false, .int .i64 0, .int .i64 0, .slice none 0 0] = (h.new 26 (reC c)).new 26 (reC rc0) := rfl
  generalize hh2 : (h.new 26 (reC c)).new 26 (reC rc0) = h2 at *
  have hkl : k ≤ P.length := by
    rcases rep_cases hne with ⟨t, e⟩ | ⟨t, e⟩
    · have := (drop_next e).2; omega
    · have := (drop_next e).2; omega
  simp only [wk, wt, wl, ↓reduceIte, Nat.reduceEqDiff, Nat.reduceAdd, Nat.zero_add, not_false_eq_true, not_true_eq_false, pt, aeff_box, boxRe PP.one1.1 PP.one1.2, hnr, newSz, R2.l1]
  refine (is_ok R2 (show k ≤ 20000000 by omega) (str1 (a := 42))).use_pure ?_
  rcases rep_cases hne with ⟨t, e⟩ | ⟨t, e⟩
  · have hI : isM [((42 : UInt8).toNat : Int)] (P.drop k) = true := by rw [e]; rfl
    have u1 := drop_next e
    have w9 : IntKind.i64.wrap ((k : Int) + 1) = ((k + 1 : Nat) : Int) := by rw [IntWalk.i64_in _ (by omega)]; omega
    obtain ⟨h5, e5, R5, C5, z5⟩ := R2.setK H2 (k + 1)
    have V5 := Ch.var H2 C5 V2 (by omega)
    have VB := Ch.var H2 C5 V1 (by omega)
    have P5 := ReR.ch C5 (fun b e => .inl (by rw [show b = rb from e]; exact hDr)) p c PP2
    obtain ⟨h6, e6, l6, P6, R6, C6⟩ := star_q (lo := 0) (hi := -1) (D := D) R5 (Ch.wf C5) V5 P5 (by omega) (.inr (by omega)) (fun b e => ⟨.inl e, by have := hD b e; omega⟩)
    have e6' : storeV prog (h5.new 26 (reC c)) 26 (.pointer (some ⟨h.size + 1, 0, none⟩)) (reV { rc0 with k := 10, hi := -1, pv := .slice (some ⟨h5.size, 0, none⟩) 1 2 }) = some (undef, h6) := e6
    simp only [wk, wt, wl, ↓reduceIte, Nat.reduceEqDiff, Nat.reduceAdd, Nat.zero_add, not_false_eq_true, not_true_eq_false, hI, R2.l1, w9, pt, e5, VB.re, bsRe (h := h5) PP.one1.1 PP.one1.2, build_rehp (one_slice), e6', l6]
    exact ⟨_, _, rfl, P6, (C02.then C5 fun b e => .inr e).then C6 (fun b e => .inl (by omega)), .inl ⟨k + 1, by rw [e, u1.1]; exact rep_star, u1.2, R6⟩⟩
  · have hI : isM [((42 : UInt8).toNat : Int)] (P.drop k) = false := by rw [e]; rfl
    have u1 := drop_next e
    have u2 := drop_next u1.1
    have w9 : IntKind.i64.wrap ((k : Int) + 2) = ((k + 2 : Nat) : Int) := by rw [IntWalk.i64_in _ (by omega)]; omega
    simp only [wk, wt, wl, ↓reduceIte, Nat.reduceEqDiff, Nat.reduceAdd, Nat.zero_add, not_false_eq_true, not_true_eq_false, hI, R2.l1, w9, pt]
    have hk2 : k + 2 ≤ P.length := u2.2
    refine (number_ok R2 hk2 hP).use ?_
    rintro _ _ ⟨i, rfl, hi1, hi2, hd2, hd3, hh⟩
    obtain rfl := hh.symm
    have ht : P.drop (k + 2) = t := u2.1
    rw [ht] at hd2 hd3
    rw [ht, e]
    have hrep : repM p (92 :: 123 :: t) = (match timesM t with | .error e => .error e | .ok (lo, hi, t) => .ok (some (pStar lo hi p, t))) := rfl
    obtain ⟨lo, hlo⟩ : ∃ lo, (digM 0 false t).1 = lo := ⟨_, rfl⟩
    rw [hlo]
    by_cases c0 : k + 2 < i
    case neg =>
      have d0 : decide ((i : Int) = ((k + 2 : Nat) : Int)) = true := decide_eq_true (by omega)
      have hT : timesM t = .error 11 := by unfold timesM; rw [hd3, decide_eq_false c0]; rfl
      simp only [wk, wt, wl, ↓reduceIte, Nat.reduceEqDiff, Nat.reduceAdd, Nat.zero_add, not_false_eq_true, not_true_eq_false, pt, R2.l1, w9, d0]
      refine (fail_ok R2).use ?_
      rintro _ h8 ⟨rfl, R8, C8⟩
      obtain ⟨h9, e9, l9, _, R9, C9⟩ := fin_q (h0 := h) (D := fun b => b = h.size + 1) (p := pE) (d := rc0) (Ch.wf C8) (Ch.var H2 C8 V2 (by omega)) ReR.e rfl R8 (C02.then C8 fun b e => .inr e) (Nat.le_succ _) hr
      simp only [wk, wt, wl, ↓reduceIte, Nat.reduceEqDiff, Nat.reduceAdd, Nat.zero_add, not_false_eq_true, not_true_eq_false, pt, build_re0, e9, l9]
      exact ⟨pE, rc0, rfl, ReR.e, C9, .inr ⟨_, _, (by rw [hrep, hT]), by decide, R9⟩⟩
    have d0 : decide ((i : Int) = ((k + 2 : Nat) : Int)) = false := decide_eq_false (by omega)
    have hT0 : timesM t = (if 100 < kmax lo (hiM lo (P.drop i)).1 ∨ (0 ≤ (hiM lo (P.drop i)).1 ∧ (hiM lo (P.drop i)).1 < lo) then .error 11 else endM lo (hiM lo (P.drop i)).1 (hiM lo (P.drop i)).2) := by
      unfold timesM
      rw [hd3, decide_eq_true c0, hd2, hlo]
      simp only [Bool.true_eq_false, if_false]
    simp only [wk, wt, wl, ↓reduceIte, Nat.reduceEqDiff, Nat.reduceAdd, Nat.zero_add, not_false_eq_true, not_true_eq_false, pt, R2.l1, w9, d0]
    refine (is_ok R2 (show i ≤ 20000000 by omega) (str1 (a := 44))).use_pure ?_
    by_cases c6 : ∃ r, P.drop i = 44 :: r
    · obtain ⟨r, hr6⟩ := c6
      have hI2 : isM [((44 : UInt8).toNat : Int)] (P.drop i) = true := by rw [hr6]; rfl
      have v1 := drop_next hr6
      have w10 : IntKind.i64.wrap ((i : Int) + 1) = ((i + 1 : Nat) : Int) := by rw [IntWalk.i64_in _ (by omega)]; omega
      simp only [wk, wt, wl, ↓reduceIte, Nat.reduceEqDiff, Nat.reduceAdd, Nat.zero_add, not_false_eq_true, not_true_eq_false, hI2, w10, pt]
      refine (number_ok R2 v1.2 hP).use ?_
      rintro _ _ ⟨j, rfl, hj1, hj2, hf2, hf3, hh⟩
      obtain rfl := hh.symm
      rw [v1.1] at hf2 hf3
      rw [v1.1]
      rw [hr6] at hT0
      obtain ⟨hi', hhi⟩ : ∃ hi', (digM 0 false r).1 = hi' := ⟨_, rfl⟩
      have hM : hiM lo (44 :: r) = (if (digM 0 false r).2.2 = true then (digM 0 false r).1 else -1, (digM 0 false r).2.1) := rfl
      rw [hf2, hf3, hhi] at hM
      rw [hhi]
      by_cases c7 : i + 1 < j
      · have d7 : decide ((j : Int) = ((i + 1 : Nat) : Int)) = false := decide_eq_false (by omega)
        rw [decide_eq_true c7, if_pos rfl] at hM
        rw [hM] at hT0
        have hTI : timesM t = (if 100 < kmax lo hi' ∨ (0 ≤ hi' ∧ hi' < lo) then .error 11 else endM lo hi' (P.drop j)) := hT0
        have KM := kmax_spec lo hi'
        have hbad : (100 < lo ∨ 100 < hi' ∨ (0 ≤ hi' ∧ hi' < lo)) → repM p (92 :: 123 :: t) = .error 11 := fun q => by rw [hrep, hTI, if_pos (by omega)]
        by_cases c1 : 100 < lo
        · have d1 := decide_eq_true c1
          simp only [wk, wt, wl, ↓reduceIte, Nat.reduceEqDiff, Nat.reduceAdd, Nat.zero_add, not_false_eq_true, not_true_eq_false, pt, w10, d7, d1]
          refine (fail_ok R2).use ?_
          rintro _ h8 ⟨rfl, R8, C8⟩
          obtain ⟨h9, e9, l9, _, R9, C9⟩ := fin_q (h0 := h) (D := fun b => b = h.size + 1) (p := pE) (d := rc0) (Ch.wf C8) (Ch.var H2 C8 V2 (by omega)) ReR.e rfl R8 (C02.then C8 fun b e => .inr e) (Nat.le_succ _) hr
          simp only [wk, wt, wl, ↓reduceIte, Nat.reduceEqDiff, Nat.reduceAdd, Nat.zero_add, not_false_eq_true, not_true_eq_false, pt, build_re0, e9, l9]
          exact ⟨pE, rc0, rfl, ReR.e, C9, .inr ⟨_, _, (hbad (.inl c1)), by decide, R9⟩⟩
        have d1 := decide_eq_false c1
        by_cases c2 : 100 < hi'
        · first
          | exact absurd c2 c1
          | skip
            have d2 := decide_eq_true c2
            simp only [wk, wt, wl, ↓reduceIte, Nat.reduceEqDiff, Nat.reduceAdd, Nat.zero_add, not_false_eq_true, not_true_eq_false, pt, w10, d7, d1, d2]
            refine (fail_ok R2).use ?_
            rintro _ h8 ⟨rfl, R8, C8⟩
            obtain ⟨h9, e9, l9, _, R9, C9⟩ := fin_q (h0 := h) (D := fun b => b = h.size + 1) (p := pE) (d := rc0) (Ch.wf C8) (Ch.var H2 C8 V2 (by omega)) ReR.e rfl R8 (C02.then C8 fun b e => .inr e) (Nat.le_succ _) hr
            simp only [wk, wt, wl, ↓reduceIte, Nat.reduceEqDiff, Nat.reduceAdd, Nat.zero_add, not_false_eq_true, not_true_eq_false, pt, build_re0, e9, l9]
            exact ⟨pE, rc0, rfl, ReR.e, C9, .inr ⟨_, _, (hbad (.inr (.inl c2))), by decide, R9⟩⟩
        have d2 := decide_eq_false c2
        have hsplit : ∀ {A : Prop}, ((0 ≤ hi' → hi' < lo → A) ∧ (0 ≤ hi' → ¬ hi' < lo → A) ∧ (¬ 0 ≤ hi' → A)) → A := fun {A} q => by
          by_cases e : 0 ≤ hi'
          · by_cases f : hi' < lo
            · exact q.1 e f
            · exact q.2.1 e f
          · exact q.2.2 e
        refine hsplit ⟨fun c3 c4 => ?_, fun c3 c4 => ?_, fun c3 => ?_⟩
        · have d3 := decide_eq_true c3
          have d4 := decide_eq_true c4
          simp only [wk, wt, wl, ↓reduceIte, Nat.reduceEqDiff, Nat.reduceAdd, Nat.zero_add, not_false_eq_true, not_true_eq_false, pt, w10, d7, d1, d2, d3, d4]
          refine (fail_ok R2).use ?_
          rintro _ h8 ⟨rfl, R8, C8⟩
          obtain ⟨h9, e9, l9, _, R9, C9⟩ := fin_q (h0 := h) (D := fun b => b = h.size + 1) (p := pE) (d := rc0) (Ch.wf C8) (Ch.var H2 C8 V2 (by omega)) ReR.e rfl R8 (C02.then C8 fun b e => .inr e) (Nat.le_succ _) hr
          simp only [wk, wt, wl, ↓reduceIte, Nat.reduceEqDiff, Nat.reduceAdd, Nat.zero_add, not_false_eq_true, not_true_eq_false, pt, build_re0, e9, l9]
          exact ⟨pE, rc0, rfl, ReR.e, C9, .inr ⟨_, _, (hbad (.inr (.inr ⟨c3, c4⟩))), by decide, R9⟩⟩
        · have d3 := decide_eq_true c3
          have d4 := decide_eq_false c4
          rw [if_neg (by omega)] at hTI
          simp only [wk, wt, wl, ↓reduceIte, Nat.reduceEqDiff, Nat.reduceAdd, Nat.zero_add, not_false_eq_true, not_true_eq_false, pt, w10, d7, d1, d2, d3, d4]
          refine (is_ok R2 (show j ≤ 20000000 by omega) (str2 (a := 92) (c := 125))).use_pure ?_
          by_cases c5 : ∃ u, P.drop j = 92 :: 125 :: u
          · obtain ⟨u, hu⟩ := c5
            have hI : isM [((92 : UInt8).toNat : Int), ((125 : UInt8).toNat : Int)] (P.drop j) = true := by rw [hu]; rfl
            have u1 := drop_next hu
            have u2 := drop_next u1.1
            have w9 : IntKind.i64.wrap ((j : Int) + 2) = ((j + 2 : Nat) : Int) := by rw [IntWalk.i64_in _ (by omega)]; omega
            obtain ⟨h5, e5, R5, C5, z5⟩ := R2.setK H2 (j + 2)
            have V5 := Ch.var H2 C5 V2 (by omega)
            have VB := Ch.var H2 C5 V1 (by omega)
            have P5 := ReR.ch C5 (fun b e => .inl (by rw [show b = rb from e]; exact hDr)) p c PP2
            obtain ⟨h6, e6, l6, P6, R6, C6⟩ := star_q (lo := lo) (hi := hi') (D := D) R5 (Ch.wf C5) V5 P5 (by omega) (.inr (by omega)) (fun b e => ⟨.inl e, by have := hD b e; omega⟩)
            simp only [wk, wt, wl, ↓reduceIte, Nat.reduceEqDiff, Nat.reduceAdd, Nat.zero_add, not_false_eq_true, not_true_eq_false, hI, w9, pt, e5, VB.re, bsRe (h := h5) PP.one1.1 PP.one1.2, build_relhp (one_slice), e6, l6]
            exact ⟨_, _, rfl, P6, (C02.then C5 fun b e => .inr e).then C6 (fun b e => .inl (by omega)), .inl ⟨j + 2, by rw [hrep, hTI, hu, u2.1]; rfl, u2.2, R6⟩⟩
          · have hI : isM [((92 : UInt8).toNat : Int), ((125 : UInt8).toNat : Int)] (P.drop j) = false := by
              rcases hq : P.drop j with _ | ⟨x, _ | ⟨y, u⟩⟩
              · rfl
              · show (if x = 92 then isM [125] [] else false) = false
                split <;> rfl
              · show (if x = 92 then (if y = 125 then isM [] u else false) else false) = false
                by_cases a1 : x = 92
                · by_cases a2 : y = 125
                  · exact absurd ⟨u, by rw [hq, a1, a2]⟩ c5
                  · rw [if_pos a1, if_neg a2]
                · rw [if_neg a1]
            have hEnd : endM lo hi' (P.drop j) = .error 10 := by
              unfold endM
              split
              · rename_i u hu; exact absurd ⟨u, hu⟩ c5
              · rfl
            simp only [wk, wt, wl, ↓reduceIte, Nat.reduceEqDiff, Nat.reduceAdd, Nat.zero_add, not_false_eq_true, not_true_eq_false, hI]
            refine (fail_ok R2).use ?_
            rintro _ h8 ⟨rfl, R8, C8⟩
            obtain ⟨h9, e9, l9, _, R9, C9⟩ := fin_q (h0 := h) (D := fun b => b = h.size + 1) (p := pE) (d := rc0) (Ch.wf C8) (Ch.var H2 C8 V2 (by omega)) ReR.e rfl R8 (C02.then C8 fun b e => .inr e) (Nat.le_succ _) hr
            simp only [wk, wt, wl, ↓reduceIte, Nat.reduceEqDiff, Nat.reduceAdd, Nat.zero_add, not_false_eq_true, not_true_eq_false, pt, build_re0, e9, l9]
            exact ⟨pE, rc0, rfl, ReR.e, C9, .inr ⟨_, _, (by rw [hrep, hTI, hEnd]), by decide, R9⟩⟩
        · have d3 := decide_eq_false c3
          rw [if_neg (by omega)] at hTI
          simp only [wk, wt, wl, ↓reduceIte, Nat.reduceEqDiff, Nat.reduceAdd, Nat.zero_add, not_false_eq_true, not_true_eq_false, pt, w10, d7, d1, d2, d3]
          refine (is_ok R2 (show j ≤ 20000000 by omega) (str2 (a := 92) (c := 125))).use_pure ?_
          by_cases c5 : ∃ u, P.drop j = 92 :: 125 :: u
          · obtain ⟨u, hu⟩ := c5
            have hI : isM [((92 : UInt8).toNat : Int), ((125 : UInt8).toNat : Int)] (P.drop j) = true := by rw [hu]; rfl
            have u1 := drop_next hu
            have u2 := drop_next u1.1
            have w9 : IntKind.i64.wrap ((j : Int) + 2) = ((j + 2 : Nat) : Int) := by rw [IntWalk.i64_in _ (by omega)]; omega
            obtain ⟨h5, e5, R5, C5, z5⟩ := R2.setK H2 (j + 2)
            have V5 := Ch.var H2 C5 V2 (by omega)
            have VB := Ch.var H2 C5 V1 (by omega)
            have P5 := ReR.ch C5 (fun b e => .inl (by rw [show b = rb from e]; exact hDr)) p c PP2
            obtain ⟨h6, e6, l6, P6, R6, C6⟩ := star_q (lo := lo) (hi := hi') (D := D) R5 (Ch.wf C5) V5 P5 (by omega) (.inr (by omega)) (fun b e => ⟨.inl e, by have := hD b e; omega⟩)
            simp only [wk, wt, wl, ↓reduceIte, Nat.reduceEqDiff, Nat.reduceAdd, Nat.zero_add, not_false_eq_true, not_true_eq_false, hI, w9, pt, e5, VB.re, bsRe (h := h5) PP.one1.1 PP.one1.2, build_relhp (one_slice), e6, l6]
            exact ⟨_, _, rfl, P6, (C02.then C5 fun b e => .inr e).then C6 (fun b e => .inl (by omega)), .inl ⟨j + 2, by rw [hrep, hTI, hu, u2.1]; rfl, u2.2, R6⟩⟩
          · have hI : isM [((92 : UInt8).toNat : Int), ((125 : UInt8).toNat : Int)] (P.drop j) = false := by
              rcases hq : P.drop j with _ | ⟨x, _ | ⟨y, u⟩⟩
              · rfl
              · show (if x = 92 then isM [125] [] else false) = false
                split <;> rfl
              · show (if x = 92 then (if y = 125 then isM [] u else false) else false) = false
                by_cases a1 : x = 92
                · by_cases a2 : y = 125
                  · exact absurd ⟨u, by rw [hq, a1, a2]⟩ c5
                  · rw [if_pos a1, if_neg a2]
                · rw [if_neg a1]
            have hEnd : endM lo hi' (P.drop j) = .error 10 := by
              unfold endM
              split
              · rename_i u hu; exact absurd ⟨u, hu⟩ c5
              · rfl
            simp only [wk, wt, wl, ↓reduceIte, Nat.reduceEqDiff, Nat.reduceAdd, Nat.zero_add, not_false_eq_true, not_true_eq_false, hI]
            refine (fail_ok R2).use ?_
            rintro _ h8 ⟨rfl, R8, C8⟩
            obtain ⟨h9, e9, l9, _, R9, C9⟩ := fin_q (h0 := h) (D := fun b => b = h.size + 1) (p := pE) (d := rc0) (Ch.wf C8) (Ch.var H2 C8 V2 (by omega)) ReR.e rfl R8 (C02.then C8 fun b e => .inr e) (Nat.le_succ _) hr
            simp only [wk, wt, wl, ↓reduceIte, Nat.reduceEqDiff, Nat.reduceAdd, Nat.zero_add, not_false_eq_true, not_true_eq_false, pt, build_re0, e9, l9]
            exact ⟨pE, rc0, rfl, ReR.e, C9, .inr ⟨_, _, (by rw [hrep, hTI, hEnd]), by decide, R9⟩⟩
      · have d7 : decide ((j : Int) = ((i + 1 : Nat) : Int)) = true := decide_eq_true (by omega)
        rw [decide_eq_false c7, if_neg (by decide)] at hM
        rw [hM] at hT0
        have hTI : timesM t = (if 100 < kmax lo (-1) ∨ (0 ≤ (-1) ∧ (-1) < lo) then .error 11 else endM lo (-1) (P.drop j)) := hT0
        have KM := kmax_spec lo (-1)
        have hbad : (100 < lo ∨ 100 < (-1) ∨ (0 ≤ (-1) ∧ (-1) < lo)) → repM p (92 :: 123 :: t) = .error 11 := fun q => by rw [hrep, hTI, if_pos (by omega)]
        by_cases c1 : 100 < lo
        · have d1 := decide_eq_true c1
          simp only [wk, wt, wl, ↓reduceIte, Nat.reduceEqDiff, Nat.reduceAdd, Nat.zero_add, not_false_eq_true, not_true_eq_false, pt, w10, d7, d1]
          refine (fail_ok R2).use ?_
          rintro _ h8 ⟨rfl, R8, C8⟩
          obtain ⟨h9, e9, l9, _, R9, C9⟩ := fin_q (h0 := h) (D := fun b => b = h.size + 1) (p := pE) (d := rc0) (Ch.wf C8) (Ch.var H2 C8 V2 (by omega)) ReR.e rfl R8 (C02.then C8 fun b e => .inr e) (Nat.le_succ _) hr
          simp only [wk, wt, wl, ↓reduceIte, Nat.reduceEqDiff, Nat.reduceAdd, Nat.zero_add, not_false_eq_true, not_true_eq_false, pt, build_re0, e9, l9]
          exact ⟨pE, rc0, rfl, ReR.e, C9, .inr ⟨_, _, (hbad (.inl c1)), by decide, R9⟩⟩
        have d1 := decide_eq_false c1
        by_cases c2 : 100 < (-1)
        · first
          | exact absurd c2 c1
          | skip
            have d2 := decide_eq_true c2
            simp only [wk, wt, wl, ↓reduceIte, Nat.reduceEqDiff, Nat.reduceAdd, Nat.zero_add, not_false_eq_true, not_true_eq_false, pt, w10, d7, d1, d2]
            refine (fail_ok R2).use ?_
            rintro _ h8 ⟨rfl, R8, C8⟩
            obtain ⟨h9, e9, l9, _, R9, C9⟩ := fin_q (h0 := h) (D := fun b => b = h.size + 1) (p := pE) (d := rc0) (Ch.wf C8) (Ch.var H2 C8 V2 (by omega)) ReR.e rfl R8 (C02.then C8 fun b e => .inr e) (Nat.le_succ _) hr
            simp only [wk, wt, wl, ↓reduceIte, Nat.reduceEqDiff, Nat.reduceAdd, Nat.zero_add, not_false_eq_true, not_true_eq_false, pt, build_re0, e9, l9]
            exact ⟨pE, rc0, rfl, ReR.e, C9, .inr ⟨_, _, (hbad (.inr (.inl c2))), by decide, R9⟩⟩
        have d2 := decide_eq_false c2
        have hsplit : ∀ {A : Prop}, ((0 ≤ (-1) → (-1) < lo → A) ∧ (0 ≤ (-1) → ¬ (-1) < lo → A) ∧ (¬ 0 ≤ (-1) → A)) → A := fun {A} q => by
          by_cases e : 0 ≤ (-1)
          · by_cases f : (-1) < lo
            · exact q.1 e f
            · exact q.2.1 e f
          · exact q.2.2 e
        refine hsplit ⟨fun c3 c4 => ?_, fun c3 c4 => ?_, fun c3 => ?_⟩
        · have d3 := decide_eq_true c3
          have d4 := decide_eq_true c4
          simp only [wk, wt, wl, ↓reduceIte, Nat.reduceEqDiff, Nat.reduceAdd, Nat.zero_add, not_false_eq_true, not_true_eq_false, pt, w10, d7, d1, d2, d3, d4]
          refine (fail_ok R2).use ?_
          rintro _ h8 ⟨rfl, R8, C8⟩
          obtain ⟨h9, e9, l9, _, R9, C9⟩ := fin_q (h0 := h) (D := fun b => b = h.size + 1) (p := pE) (d := rc0) (Ch.wf C8) (Ch.var H2 C8 V2 (by omega)) ReR.e rfl R8 (C02.then C8 fun b e => .inr e) (Nat.le_succ _) hr
          simp only [wk, wt, wl, ↓reduceIte, Nat.reduceEqDiff, Nat.reduceAdd, Nat.zero_add, not_false_eq_true, not_true_eq_false, pt, build_re0, e9, l9]
          exact ⟨pE, rc0, rfl, ReR.e, C9, .inr ⟨_, _, (hbad (.inr (.inr ⟨c3, c4⟩))), by decide, R9⟩⟩
        · have d3 := decide_eq_true c3
          have d4 := decide_eq_false c4
          rw [if_neg (by omega)] at hTI
          simp only [wk, wt, wl, ↓reduceIte, Nat.reduceEqDiff, Nat.reduceAdd, Nat.zero_add, not_false_eq_true, not_true_eq_false, pt, w10, d7, d1, d2, d3, d4]
          refine (is_ok R2 (show j ≤ 20000000 by omega) (str2 (a := 92) (c := 125))).use_pure ?_
          by_cases c5 : ∃ u, P.drop j = 92 :: 125 :: u
          · obtain ⟨u, hu⟩ := c5
            have hI : isM [((92 : UInt8).toNat : Int), ((125 : UInt8).toNat : Int)] (P.drop j) = true := by rw [hu]; rfl
            have u1 := drop_next hu
            have u2 := drop_next u1.1
            have w9 : IntKind.i64.wrap ((j : Int) + 2) = ((j + 2 : Nat) : Int) := by rw [IntWalk.i64_in _ (by omega)]; omega
            obtain ⟨h5, e5, R5, C5, z5⟩ := R2.setK H2 (j + 2)
            have V5 := Ch.var H2 C5 V2 (by omega)
            have VB := Ch.var H2 C5 V1 (by omega)
            have P5 := ReR.ch C5 (fun b e => .inl (by rw [show b = rb from e]; exact hDr)) p c PP2
            obtain ⟨h6, e6, l6, P6, R6, C6⟩ := star_q (lo := lo) (hi := (-1)) (D := D) R5 (Ch.wf C5) V5 P5 (by omega) (.inr (by omega)) (fun b e => ⟨.inl e, by have := hD b e; omega⟩)
            simp only [wk, wt, wl, ↓reduceIte, Nat.reduceEqDiff, Nat.reduceAdd, Nat.zero_add, not_false_eq_true, not_true_eq_false, hI, w9, pt, e5, VB.re, bsRe (h := h5) PP.one1.1 PP.one1.2, build_relhp (one_slice), e6, l6]
            exact ⟨_, _, rfl, P6, (C02.then C5 fun b e => .inr e).then C6 (fun b e => .inl (by omega)), .inl ⟨j + 2, by rw [hrep, hTI, hu, u2.1]; rfl, u2.2, R6⟩⟩
          · have hI : isM [((92 : UInt8).toNat : Int), ((125 : UInt8).toNat : Int)] (P.drop j) = false := by
              rcases hq : P.drop j with _ | ⟨x, _ | ⟨y, u⟩⟩
              · rfl
              · show (if x = 92 then isM [125] [] else false) = false
                split <;> rfl
              · show (if x = 92 then (if y = 125 then isM [] u else false) else false) = false
                by_cases a1 : x = 92
                · by_cases a2 : y = 125
                  · exact absurd ⟨u, by rw [hq, a1, a2]⟩ c5
                  · rw [if_pos a1, if_neg a2]
                · rw [if_neg a1]
            have hEnd : endM lo (-1) (P.drop j) = .error 10 := by
              unfold endM
              split
              · rename_i u hu; exact absurd ⟨u, hu⟩ c5
              · rfl
            simp only [wk, wt, wl, ↓reduceIte, Nat.reduceEqDiff, Nat.reduceAdd, Nat.zero_add, not_false_eq_true, not_true_eq_false, hI]
            refine (fail_ok R2).use ?_
            rintro _ h8 ⟨rfl, R8, C8⟩
            obtain ⟨h9, e9, l9, _, R9, C9⟩ := fin_q (h0 := h) (D := fun b => b = h.size + 1) (p := pE) (d := rc0) (Ch.wf C8) (Ch.var H2 C8 V2 (by omega)) ReR.e rfl R8 (C02.then C8 fun b e => .inr e) (Nat.le_succ _) hr
            simp only [wk, wt, wl, ↓reduceIte, Nat.reduceEqDiff, Nat.reduceAdd, Nat.zero_add, not_false_eq_true, not_true_eq_false, pt, build_re0, e9, l9]
            exact ⟨pE, rc0, rfl, ReR.e, C9, .inr ⟨_, _, (by rw [hrep, hTI, hEnd]), by decide, R9⟩⟩
        · have d3 := decide_eq_false c3
          rw [if_neg (by omega)] at hTI
          simp only [wk, wt, wl, ↓reduceIte, Nat.reduceEqDiff, Nat.reduceAdd, Nat.zero_add, not_false_eq_true, not_true_eq_false, pt, w10, d7, d1, d2, d3]
          refine (is_ok R2 (show j ≤ 20000000 by omega) (str2 (a := 92) (c := 125))).use_pure ?_
          by_cases c5 : ∃ u, P.drop j = 92 :: 125 :: u
          · obtain ⟨u, hu⟩ := c5
            have hI : isM [((92 : UInt8).toNat : Int), ((125 : UInt8).toNat : Int)] (P.drop j) = true := by rw [hu]; rfl
            have u1 := drop_next hu
            have u2 := drop_next u1.1
            have w9 : IntKind.i64.wrap ((j : Int) + 2) = ((j + 2 : Nat) : Int) := by rw [IntWalk.i64_in _ (by omega)]; omega
            obtain ⟨h5, e5, R5, C5, z5⟩ := R2.setK H2 (j + 2)
            have V5 := Ch.var H2 C5 V2 (by omega)
            have VB := Ch.var H2 C5 V1 (by omega)
            have P5 := ReR.ch C5 (fun b e => .inl (by rw [show b = rb from e]; exact hDr)) p c PP2
            obtain ⟨h6, e6, l6, P6, R6, C6⟩ := star_q (lo := lo) (hi := (-1)) (D := D) R5 (Ch.wf C5) V5 P5 (by omega) (.inr (by omega)) (fun b e => ⟨.inl e, by have := hD b e; omega⟩)
            simp only [wk, wt, wl, ↓reduceIte, Nat.reduceEqDiff, Nat.reduceAdd, Nat.zero_add, not_false_eq_true, not_true_eq_false, hI, w9, pt, e5, VB.re, bsRe (h := h5) PP.one1.1 PP.one1.2, build_relhp (one_slice), e6, l6]
            exact ⟨_, _, rfl, P6, (C02.then C5 fun b e => .inr e).then C6 (fun b e => .inl (by omega)), .inl ⟨j + 2, by rw [hrep, hTI, hu, u2.1]; rfl, u2.2, R6⟩⟩
          · have hI : isM [((92 : UInt8).toNat : Int), ((125 : UInt8).toNat : Int)] (P.drop j) = false := by
              rcases hq : P.drop j with _ | ⟨x, _ | ⟨y, u⟩⟩
              · rfl
              · show (if x = 92 then isM [125] [] else false) = false
                split <;> rfl
              · show (if x = 92 then (if y = 125 then isM [] u else false) else false) = false
                by_cases a1 : x = 92
                · by_cases a2 : y = 125
                  · exact absurd ⟨u, by rw [hq, a1, a2]⟩ c5
                  · rw [if_pos a1, if_neg a2]
                · rw [if_neg a1]
            have hEnd : endM lo (-1) (P.drop j) = .error 10 := by
              unfold endM
              split
              · rename_i u hu; exact absurd ⟨u, hu⟩ c5
              · rfl
            simp only [wk, wt, wl, ↓reduceIte, Nat.reduceEqDiff, Nat.reduceAdd, Nat.zero_add, not_false_eq_true, not_true_eq_false, hI]
            refine (fail_ok R2).use ?_
            rintro _ h8 ⟨rfl, R8, C8⟩
            obtain ⟨h9, e9, l9, _, R9, C9⟩ := fin_q (h0 := h) (D := fun b => b = h.size + 1) (p := pE) (d := rc0) (Ch.wf C8) (Ch.var H2 C8 V2 (by omega)) ReR.e rfl R8 (C02.then C8 fun b e => .inr e) (Nat.le_succ _) hr
            simp only [wk, wt, wl, ↓reduceIte, Nat.reduceEqDiff, Nat.reduceAdd, Nat.zero_add, not_false_eq_true, not_true_eq_false, pt, build_re0, e9, l9]
            exact ⟨pE, rc0, rfl, ReR.e, C9, .inr ⟨_, _, (by rw [hrep, hTI, hEnd]), by decide, R9⟩⟩
    · have hI2 : isM [((44 : UInt8).toNat : Int)] (P.drop i) = false := by
        rcases hq : P.drop i with _ | ⟨x, u⟩
        · rfl
        · show (if x = 44 then isM [] u else false) = false
          rw [if_neg (fun a => c6 ⟨u, by rw [hq, a]⟩)]
      have hM : hiM lo (P.drop i) = (lo, P.drop i) := by
        rcases hq : P.drop i with _ | ⟨x, u⟩
        · rfl
        · rw [hiM_eq, if_neg (fun a => c6 ⟨u, by rw [hq, a]⟩)]
      rw [hM] at hT0
      have hTI : timesM t = (if 100 < kmax lo lo ∨ (0 ≤ lo ∧ lo < lo) then .error 11 else endM lo lo (P.drop i)) := hT0
      have KM := kmax_spec lo lo
      have hbad : (100 < lo ∨ 100 < lo ∨ (0 ≤ lo ∧ lo < lo)) → repM p (92 :: 123 :: t) = .error 11 := fun q => by rw [hrep, hTI, if_pos (by omega)]
      by_cases c1 : 100 < lo
      · have d1 := decide_eq_true c1
        simp only [wk, wt, wl, ↓reduceIte, Nat.reduceEqDiff, Nat.reduceAdd, Nat.zero_add, not_false_eq_true, not_true_eq_false, pt, hI2, d1]
        refine (fail_ok R2).use ?_
        rintro _ h8 ⟨rfl, R8, C8⟩
        obtain ⟨h9, e9, l9, _, R9, C9⟩ := fin_q (h0 := h) (D := fun b => b = h.size + 1) (p := pE) (d := rc0) (Ch.wf C8) (Ch.var H2 C8 V2 (by omega)) ReR.e rfl R8 (C02.then C8 fun b e => .inr e) (Nat.le_succ _) hr
        simp only [wk, wt, wl, ↓reduceIte, Nat.reduceEqDiff, Nat.reduceAdd, Nat.zero_add, not_false_eq_true, not_true_eq_false, pt, build_re0, e9, l9]
        exact ⟨pE, rc0, rfl, ReR.e, C9, .inr ⟨_, _, (hbad (.inl c1)), by decide, R9⟩⟩
      have d1 := decide_eq_false c1
      by_cases c2 : 100 < lo
      · first
        | exact absurd c2 c1
        | skip
          have d2 := decide_eq_true c2
          simp only [wk, wt, wl, ↓reduceIte, Nat.reduceEqDiff, Nat.reduceAdd, Nat.zero_add, not_false_eq_true, not_true_eq_false, pt, hI2, d1, d2]
          refine (fail_ok R2).use ?_
          rintro _ h8 ⟨rfl, R8, C8⟩
          obtain ⟨h9, e9, l9, _, R9, C9⟩ := fin_q (h0 := h) (D := fun b => b = h.size + 1) (p := pE) (d := rc0) (Ch.wf C8) (Ch.var H2 C8 V2 (by omega)) ReR.e rfl R8 (C02.then C8 fun b e => .inr e) (Nat.le_succ _) hr
          simp only [wk, wt, wl, ↓reduceIte, Nat.reduceEqDiff, Nat.reduceAdd, Nat.zero_add, not_false_eq_true, not_true_eq_false, pt, build_re0, e9, l9]
          exact ⟨pE, rc0, rfl, ReR.e, C9, .inr ⟨_, _, (hbad (.inr (.inl c2))), by decide, R9⟩⟩
      have d2 := decide_eq_false c2
      have hsplit : ∀ {A : Prop}, ((0 ≤ lo → lo < lo → A) ∧ (0 ≤ lo → ¬ lo < lo → A) ∧ (¬ 0 ≤ lo → A)) → A := fun {A} q => by
        by_cases e : 0 ≤ lo
        · by_cases f : lo < lo
          · exact q.1 e f
          · exact q.2.1 e f
        · exact q.2.2 e
      refine hsplit ⟨fun c3 c4 => ?_, fun c3 c4 => ?_, fun c3 => ?_⟩
      · have d3 := decide_eq_true c3
        have d4 := decide_eq_true c4
        simp only [wk, wt, wl, ↓reduceIte, Nat.reduceEqDiff, Nat.reduceAdd, Nat.zero_add, not_false_eq_true, not_true_eq_false, pt, hI2, d1, d2, d3, d4]
        refine (fail_ok R2).use ?_
        rintro _ h8 ⟨rfl, R8, C8⟩
        obtain ⟨h9, e9, l9, _, R9, C9⟩ := fin_q (h0 := h) (D := fun b => b = h.size + 1) (p := pE) (d := rc0) (Ch.wf C8) (Ch.var H2 C8 V2 (by omega)) ReR.e rfl R8 (C02.then C8 fun b e => .inr e) (Nat.le_succ _) hr
        simp only [wk, wt, wl, ↓reduceIte, Nat.reduceEqDiff, Nat.reduceAdd, Nat.zero_add, not_false_eq_true, not_true_eq_false, pt, build_re0, e9, l9]
        exact ⟨pE, rc0, rfl, ReR.e, C9, .inr ⟨_, _, (hbad (.inr (.inr ⟨c3, c4⟩))), by decide, R9⟩⟩
      · have d3 := decide_eq_true c3
        have d4 := decide_eq_false c4
        rw [if_neg (by omega)] at hTI
        simp only [wk, wt, wl, ↓reduceIte, Nat.reduceEqDiff, Nat.reduceAdd, Nat.zero_add, not_false_eq_true, not_true_eq_false, pt, hI2, d1, d2, d3, d4]
        refine (is_ok R2 (show i ≤ 20000000 by omega) (str2 (a := 92) (c := 125))).use_pure ?_
        by_cases c5 : ∃ u, P.drop i = 92 :: 125 :: u
        · obtain ⟨u, hu⟩ := c5
          have hI : isM [((92 : UInt8).toNat : Int), ((125 : UInt8).toNat : Int)] (P.drop i) = true := by rw [hu]; rfl
          have u1 := drop_next hu
          have u2 := drop_next u1.1
          have w9 : IntKind.i64.wrap ((i : Int) + 2) = ((i + 2 : Nat) : Int) := by rw [IntWalk.i64_in _ (by omega)]; omega
          obtain ⟨h5, e5, R5, C5, z5⟩ := R2.setK H2 (i + 2)
          have V5 := Ch.var H2 C5 V2 (by omega)
          have VB := Ch.var H2 C5 V1 (by omega)
          have P5 := ReR.ch C5 (fun b e => .inl (by rw [show b = rb from e]; exact hDr)) p c PP2
          obtain ⟨h6, e6, l6, P6, R6, C6⟩ := star_q (lo := lo) (hi := lo) (D := D) R5 (Ch.wf C5) V5 P5 (by omega) (.inr (by omega)) (fun b e => ⟨.inl e, by have := hD b e; omega⟩)
          simp only [wk, wt, wl, ↓reduceIte, Nat.reduceEqDiff, Nat.reduceAdd, Nat.zero_add, not_false_eq_true, not_true_eq_false, hI, w9, pt, e5, VB.re, bsRe (h := h5) PP.one1.1 PP.one1.2, build_relhp (one_slice), e6, l6]
          exact ⟨_, _, rfl, P6, (C02.then C5 fun b e => .inr e).then C6 (fun b e => .inl (by omega)), .inl ⟨i + 2, by rw [hrep, hTI, hu, u2.1]; rfl, u2.2, R6⟩⟩
        · have hI : isM [((92 : UInt8).toNat : Int), ((125 : UInt8).toNat : Int)] (P.drop i) = false := by
            rcases hq : P.drop i with _ | ⟨x, _ | ⟨y, u⟩⟩
            · rfl
            · show (if x = 92 then isM [125] [] else false) = false
              split <;> rfl
            · show (if x = 92 then (if y = 125 then isM [] u else false) else false) = false
              by_cases a1 : x = 92
              · by_cases a2 : y = 125
                · exact absurd ⟨u, by rw [hq, a1, a2]⟩ c5
                · rw [if_pos a1, if_neg a2]
              · rw [if_neg a1]
          have hEnd : endM lo lo (P.drop i) = .error 10 := by
            unfold endM
            split
            · rename_i u hu; exact absurd ⟨u, hu⟩ c5
            · rfl
          simp only [wk, wt, wl, ↓reduceIte, Nat.reduceEqDiff, Nat.reduceAdd, Nat.zero_add, not_false_eq_true, not_true_eq_false, hI]
          refine (fail_ok R2).use ?_
          rintro _ h8 ⟨rfl, R8, C8⟩
          obtain ⟨h9, e9, l9, _, R9, C9⟩ := fin_q (h0 := h) (D := fun b => b = h.size + 1) (p := pE) (d := rc0) (Ch.wf C8) (Ch.var H2 C8 V2 (by omega)) ReR.e rfl R8 (C02.then C8 fun b e => .inr e) (Nat.le_succ _) hr
          simp only [wk, wt, wl, ↓reduceIte, Nat.reduceEqDiff, Nat.reduceAdd, Nat.zero_add, not_false_eq_true, not_true_eq_false, pt, build_re0, e9, l9]
          exact ⟨pE, rc0, rfl, ReR.e, C9, .inr ⟨_, _, (by rw [hrep, hTI, hEnd]), by decide, R9⟩⟩
      · have d3 := decide_eq_false c3
        rw [if_neg (by omega)] at hTI
        simp only [wk, wt, wl, ↓reduceIte, Nat.reduceEqDiff, Nat.reduceAdd, Nat.zero_add, not_false_eq_true, not_true_eq_false, pt, hI2, d1, d2, d3]
        refine (is_ok R2 (show i ≤ 20000000 by omega) (str2 (a := 92) (c := 125))).use_pure ?_
        by_cases c5 : ∃ u, P.drop i = 92 :: 125 :: u
        · obtain ⟨u, hu⟩ := c5
          have hI : isM [((92 : UInt8).toNat : Int), ((125 : UInt8).toNat : Int)] (P.drop i) = true := by rw [hu]; rfl
          have u1 := drop_next hu
          have u2 := drop_next u1.1
          have w9 : IntKind.i64.wrap ((i : Int) + 2) = ((i + 2 : Nat) : Int) := by rw [IntWalk.i64_in _ (by omega)]; omega
          obtain ⟨h5, e5, R5, C5, z5⟩ := R2.setK H2 (i + 2)
          have V5 := Ch.var H2 C5 V2 (by omega)
          have VB := Ch.var H2 C5 V1 (by omega)
          have P5 := ReR.ch C5 (fun b e => .inl (by rw [show b = rb from e]; exact hDr)) p c PP2
          obtain ⟨h6, e6, l6, P6, R6, C6⟩ := star_q (lo := lo) (hi := lo) (D := D) R5 (Ch.wf C5) V5 P5 (by omega) (.inr (by omega)) (fun b e => ⟨.inl e, by have := hD b e; omega⟩)
          simp only [wk, wt, wl, ↓reduceIte, Nat.reduceEqDiff, Nat.reduceAdd, Nat.zero_add, not_false_eq_true, not_true_eq_false, hI, w9, pt, e5, VB.re, bsRe (h := h5) PP.one1.1 PP.one1.2, build_relhp (one_slice), e6, l6]
          exact ⟨_, _, rfl, P6, (C02.then C5 fun b e => .inr e).then C6 (fun b e => .inl (by omega)), .inl ⟨i + 2, by rw [hrep, hTI, hu, u2.1]; rfl, u2.2, R6⟩⟩
        · have hI : isM [((92 : UInt8).toNat : Int), ((125 : UInt8).toNat : Int)] (P.drop i) = false := by
            rcases hq : P.drop i with _ | ⟨x, _ | ⟨y, u⟩⟩
            · rfl
            · show (if x = 92 then isM [125] [] else false) = false
              split <;> rfl
            · show (if x = 92 then (if y = 125 then isM [] u else false) else false) = false
              by_cases a1 : x = 92
              · by_cases a2 : y = 125
                · exact absurd ⟨u, by rw [hq, a1, a2]⟩ c5
                · rw [if_pos a1, if_neg a2]
              · rw [if_neg a1]
          have hEnd : endM lo lo (P.drop i) = .error 10 := by
            unfold endM
            split
            · rename_i u hu; exact absurd ⟨u, hu⟩ c5
            · rfl
          simp only [wk, wt, wl, ↓reduceIte, Nat.reduceEqDiff, Nat.reduceAdd, Nat.zero_add, not_false_eq_true, not_true_eq_false, hI]
          refine (fail_ok R2).use ?_
          rintro _ h8 ⟨rfl, R8, C8⟩
          obtain ⟨h9, e9, l9, _, R9, C9⟩ := fin_q (h0 := h) (D := fun b => b = h.size + 1) (p := pE) (d := rc0) (Ch.wf C8) (Ch.var H2 C8 V2 (by omega)) ReR.e rfl R8 (C02.then C8 fun b e => .inr e) (Nat.le_succ _) hr
          simp only [wk, wt, wl, ↓reduceIte, Nat.reduceEqDiff, Nat.reduceAdd, Nat.zero_add, not_false_eq_true, not_true_eq_false, pt, build_re0, e9, l9]
          exact ⟨pE, rc0, rfl, ReR.e, C9, .inr ⟨_, _, (by rw [hrep, hTI, hEnd]), by decide, R9⟩⟩
end Go.Proofs.Ytnnkcbkenofhmaa.Am
end
section
/- Patterns, the document's reader: contract of set, by a walk. -/
set_option linter.unusedSimpArgs false
set_option linter.unusedVariables false
set_option maxHeartbeats 4000000
set_option maxRecDepth 20000
namespace Go.Proofs.Ytnnkcbkenofhmaa.Am
open Go Go.RowKit Go.Proofs.Try
/-- The relation of the second loop. -/
structure SetQ (h hh : Heap) (rb : Nat) (pv : Value) (P : List Int) (k : Nat) (g o : Int) (nt : Bool) (sv : Value) (acc : List (Int × Int)) : Prop where
  V2 : Var hh h.size (reC rc0)
  V3 : Var hh (h.size + 1) (reC (setC sv nt))
  O : OS prog h.size hh 2 spC sv acc
  hs : ∀ b, blkOf sv = some b → h.size + 1 < b
  R : QD hh rb pv P k g o 0
  C : Ch (Bx rb) h hh
  z : h.size + 2 ≤ hh.size
/-- One span more. -/
theorem SetQ.push {h hh : Heap} {rb : Nat} {pv : Value} {P : List Int} {k : Nat} {g o : Int} {nt : Bool} {sv : Value} {acc : List (Int × Int)} (X : SetQ h hh rb pv P k g o nt sv acc) (hr : rb < h.size) (x : Int × Int) (hl : acc.length ≤ 100000000) :
    ∃ v' h1 h2, aappend prog (hh.new 50 (spC x)) 23 23 sv (.slice (some ⟨hh.size, 0, none⟩) 1 2) = some (v', h1) ∧ storeV prog h1 23 (.pointer (some ⟨h.size + 1, 2, none⟩)) v' = some (undef, h2) ∧ Reads (hh.new 50 (spC x)) h1 ∧
      SetQ h h2 rb pv P k g o nt v' (acc ++ [x]) := by
  have Hh := Ch.wf X.C
  obtain ⟨v', h1, e1, O1, C1, R1, ev⟩ := X.O.append1D (P := prog) Hh (Ch.le X.C) underlying23 elem50 fits50 (by decide) (by decide) x rfl (by omega)
  have hD : ∀ b, blkOf sv = some b ∧ h.size ≤ b → h.size + 1 < b := fun b e => X.hs b e.1
  have ov : one v' = true := by rw [ev]; rfl
  have V3 := Ch.var Hh C1 X.V3 fun e => by have := hD _ e; omega
  obtain ⟨h2, e2, V3', C2, z2⟩ := V3.store1 (P := prog) (t := 23) (v := v') (i := 2) (Ch.wf C1) asz23 (by simp [reC]) ov
  have hb1 : ∀ b, blkOf v' = some b → b = hh.size + 1 := fun b e => by rw [ev] at e; cases e; rfl
  have hsz : hh.size ≤ h1.size := Ch.le C1
  have CC : Ch (fun b => b = h.size + 1 ∨ (blkOf sv = some b ∧ h.size ≤ b)) hh h2 := (C1.mono fun b e => .inr e).then C2 fun b e => .inr (.inl e)
  have hCC : ∀ b, (b = h.size + 1 ∨ (blkOf sv = some b ∧ h.size ≤ b)) → h.size < b := fun b e => by
    rcases e with e | e
    · omega
    · have := hD b e; omega
  refine ⟨v', h1, h2, e1, e2, R1.2, ⟨Ch.var Hh CC X.V2 (fun e => by have := hCC _ e; omega), V3', ?_, fun b e => by have := hb1 b e; have := X.z; omega, X.R.ch Hh CC (fun b e => by have := hCC b e; omega), X.C.then CC fun b e => .inl (by have := hCC b e; omega), by have := X.z; omega⟩⟩
  refine Ch.own C2 O1 fun b e f => ?_
  have := hb1 b e; have := X.z; omega
theorem take_at {P : List Int} {j m : Nat} (h : m < j) : (P.take j)[m]? = P[m]? := by rw [List.getElem?_take, if_pos h]
theorem setQ_ok {h : Heap} {rb : Nat} {pv : Value} {P : List Int} {k : Nat} {g o : Int} (R : QD h rb pv P k g o 0) (hk : k < P.length) (hP : P.length ≤ 10000000) (h32 : I32 P) :
    ACalls prog 43 #[pt rb] h (fun y h' => ∃ q c', y = reV c' ∧ ReR h' (Lt h.size) q c' ∧ Ch (Bx rb) h h' ∧ ((∃ k' : Nat, setM (P.drop (k + 1)) = .ok (q, P.drop k') ∧ k' ≤ P.length ∧ QD h' rb pv P k' g o 0) ∨ (∃ (e : Int) (k' : Nat), setM (P.drop (k + 1)) = .error e ∧ e ≠ 0 ∧ QD h' rb pv P k' g o e))) := by
  refine acalls_of_W' func43 rfl (by kernel_rfl) (by kernel_rfl) (by simp [ntmps43]) ?_
  intro H
  have hr := R.lt H
  have N1 := Keeps.new H 26 (reC rc0)
  have V2 := Var.new (e := 26) H (cs := reC rc0)
  have V3 := Var.new (e := 26) (Ch.wf N1) (cs := reC rc0)
  have N2 := Keeps.new (Ch.wf N1) 26 (reC rc0)
  have hz1 : (h.new 26 (reC rc0)).size = h.size + 1 := rfl
  rw [hz1] at V3
  have V2' := Keeps.var (Ch.wf N1) N2 V2
  obtain ⟨h3, e3, V33, C3, z3⟩ := V3.put (Ch.wf N2) (d := setC nilS false) rfl rfl
  have K3 : Keeps h h3 := (N1.trans N2).step C3 fun b e => by omega
  have V23 := Ch.var (Ch.wf N2) C3 V2' (by omega)
  have R3 := R.keeps H K3
  have C03 : Ch (Bx rb) h h3 := K3.mono fun _ e => e.elim
  have hz3 : h.size + 2 ≤ h3.size := by rw [z3]; show _ ≤ h.size + 1 + 1; omega
  have bk : abuild prog 26 #[(0, .int .i64 3)] = some (reV (setC nilS false)) := build_rek
  have w1 : IntKind.i64.wrap ((k : Int) + 1) = ((k + 1 : Nat) : Int) := by rw [IntWalk.i64_in _ (by omega)]; omega
  simp only [wk, wt, wl, ↓reduceIte, Nat.reduceEqDiff, Nat.reduceAdd, Nat.zero_add, not_false_eq_true, not_true_eq_false, pt, newRe, newSz, bk, e3, R3.l1, w1]
  refine (is_ok R3 (show k + 1 ≤ 20000000 by omega) (str1 (a := 94))).use_pure ?_
  by_cases c6 : ∃ r, P.drop (k + 1) = 94 :: r
  · obtain ⟨r, hr6⟩ := c6
    have hI : isM [((94 : UInt8).toNat : Int)] (P.drop (k + 1)) = true := by rw [hr6]; rfl
    have v1 := drop_next hr6
    obtain ⟨h4, e4, V4', C4, z4⟩ := V33.store1 (P := prog) (t := 4) (v := .bool true) (i := 3) (Ch.wf K3) asz4 (by simp [reC]) rfl
    have V34 : Var h4 (h.size + 1) (reC (setC nilS true)) := V4'
    have K4 : Keeps h h4 := K3.step C4 fun b e => by omega
    have V24 := Ch.var (Ch.wf K3) C4 V23 (by omega)
    have R4 := R.keeps H K4
    have C04 : Ch (Bx rb) h h4 := K4.mono fun _ e => e.elim
    have hz4 : h.size + 2 ≤ h4.size := by rw [z4]; exact hz3
    have w2 : IntKind.i64.wrap (((k + 1 : Nat) : Int) + 1) = ((k + 2 : Nat) : Int) := by rw [IntWalk.i64_in _ (by omega)]; omega
    have w3 : IntKind.i64.wrap (((k + 2 : Nat) : Int) + 1) = ((k + 2 + 1 : Nat) : Int) := by rw [IntWalk.i64_in _ (by omega)]; omega
    have hm : setM (P.drop (k + 1)) = setR true (P.drop (k + 2)) := by rw [hr6, setM_nt, ← v1.1]
    have hk2 := v1.2
    simp only [wk, wt, wl, ↓reduceIte, Nat.reduceEqDiff, Nat.reduceAdd, Nat.zero_add, not_false_eq_true, not_true_eq_false, hI, pt, e4, w2, w3]
    refine W_loop (fun tm h' => h4 = h' ∧ tm 0 = pt rb ∧ tm 2 = pt h.size ∧ tm 3 = pt (h.size + 1) ∧ tm 4 = .int .i64 ((k + 2) : Int) ∧ ∃ j : Nat, tm 5 = .int .i64 (j : Int) ∧ (k + 2) + 1 ≤ j ∧ j ≤ P.length + 2 ∧ ∀ m, (k + 2) + 1 ≤ m → m < j → P[m]? ≠ some 93)
      (fun tm _ => (P.length - intOf (tm 5)).toNat) ⟨rfl, (by first | rfl | (simp only [wk, wt, wl, ↓reduceIte, Nat.reduceEqDiff, Nat.reduceAdd, Nat.zero_add, not_false_eq_true, not_true_eq_false]; done) | (simp only [wk, wt, wl, ↓reduceIte, Nat.reduceEqDiff, Nat.reduceAdd, Nat.zero_add, not_false_eq_true, not_true_eq_false]; rfl) | (simp only [wk, wt, wl, ↓reduceIte, Nat.reduceEqDiff, Nat.reduceAdd, Nat.zero_add, not_false_eq_true, not_true_eq_false, w1, pt]; done) | (simp only [wk, wt, wl, ↓reduceIte, Nat.reduceEqDiff, Nat.reduceAdd, Nat.zero_add, not_false_eq_true, not_true_eq_false, w1, pt]; rfl)), (by first | rfl | (simp only [wk, wt, wl, ↓reduceIte, Nat.reduceEqDiff, Nat.reduceAdd, Nat.zero_add, not_false_eq_true, not_true_eq_false]; done) | (simp only [wk, wt, wl, ↓reduceIte, Nat.reduceEqDiff, Nat.reduceAdd, Nat.zero_add, not_false_eq_true, not_true_eq_false]; rfl) | (simp only [wk, wt, wl, ↓reduceIte, Nat.reduceEqDiff, Nat.reduceAdd, Nat.zero_add, not_false_eq_true, not_true_eq_false, w1, pt]; done) | (simp only [wk, wt, wl, ↓reduceIte, Nat.reduceEqDiff, Nat.reduceAdd, Nat.zero_add, not_false_eq_true, not_true_eq_false, w1, pt]; rfl)), (by first | rfl | (simp only [wk, wt, wl, ↓reduceIte, Nat.reduceEqDiff, Nat.reduceAdd, Nat.zero_add, not_false_eq_true, not_true_eq_false]; done) | (simp only [wk, wt, wl, ↓reduceIte, Nat.reduceEqDiff, Nat.reduceAdd, Nat.zero_add, not_false_eq_true, not_true_eq_false]; rfl) | (simp only [wk, wt, wl, ↓reduceIte, Nat.reduceEqDiff, Nat.reduceAdd, Nat.zero_add, not_false_eq_true, not_true_eq_false, w1, pt]; done) | (simp only [wk, wt, wl, ↓reduceIte, Nat.reduceEqDiff, Nat.reduceAdd, Nat.zero_add, not_false_eq_true, not_true_eq_false, w1, pt]; rfl)), (by first | rfl | (simp only [wk, wt, wl, ↓reduceIte, Nat.reduceEqDiff, Nat.reduceAdd, Nat.zero_add, not_false_eq_true, not_true_eq_false]; done) | (simp only [wk, wt, wl, ↓reduceIte, Nat.reduceEqDiff, Nat.reduceAdd, Nat.zero_add, not_false_eq_true, not_true_eq_false]; rfl) | (simp only [wk, wt, wl, ↓reduceIte, Nat.reduceEqDiff, Nat.reduceAdd, Nat.zero_add, not_false_eq_true, not_true_eq_false, w1, pt, w2, w3]; done) | (simp only [wk, wt, wl, ↓reduceIte, Nat.reduceEqDiff, Nat.reduceAdd, Nat.zero_add, not_false_eq_true, not_true_eq_false, w1, pt, w2, w3]; rfl)), (k + 2) + 1, (by first | rfl | (simp only [wk, wt, wl, ↓reduceIte, Nat.reduceEqDiff, Nat.reduceAdd, Nat.zero_add, not_false_eq_true, not_true_eq_false]; done) | (simp only [wk, wt, wl, ↓reduceIte, Nat.reduceEqDiff, Nat.reduceAdd, Nat.zero_add, not_false_eq_true, not_true_eq_false]; rfl) | (simp only [wk, wt, wl, ↓reduceIte, Nat.reduceEqDiff, Nat.reduceAdd, Nat.zero_add, not_false_eq_true, not_true_eq_false, w1, pt, w2, w3]; done) | (simp only [wk, wt, wl, ↓reduceIte, Nat.reduceEqDiff, Nat.reduceAdd, Nat.zero_add, not_false_eq_true, not_true_eq_false, w1, pt, w2, w3]; rfl)), Nat.le_refl _, by omega, fun m h1 h2 => by omega⟩ ?_
    rintro tm _ ⟨rfl, t0, t2, t3, t4, j, t5, hij, hjl, hno⟩
    have LP := (R4).2.1.ln (n := (P.length : Int)) rfl
    have go : P[j]? ≠ none → P[j]? ≠ some 93 → ∃ y, P[j]? = some y ∧ y ≠ 93 := fun a b => by
      cases hy : P[j]? with
      | none => exact absurd hy a
      | some y => exact ⟨y, rfl, fun e => b (by rw [hy, e])⟩
    have HMM : setM (P.drop (k + 1)) = setR true (P.drop (k + 2)) := hm
    have hdd : (P.drop (k + 2)).drop 1 = P.drop ((k + 2) + 1) := by rw [List.drop_drop]
    by_cases cj : j < P.length
    case neg =>
      have d1 : decide ((j : Int) < (P.length : Int)) = false := decide_eq_false (by omega)
      have d2 : decide ((P.length : Int) ≤ (j : Int)) = true := decide_eq_true (by omega)
      simp only [wk, wt, wl, ↓reduceIte, Nat.reduceEqDiff, Nat.reduceAdd, Nat.zero_add, not_false_eq_true, not_true_eq_false, t0, t2, t3, t4, t5, pt, (R4).l0, LP, d1, d2]
      have hfn : findM ((P.drop (k + 2)).drop 1) = none := find_none fun m => by
        rw [hdd, List.getElem?_drop]
        by_cases hm : (k + 2) + 1 + m < j
        · exact hno _ (by omega) hm
        · rw [List.getElem?_eq_none_iff.2 (by omega)]; simp
      refine (fail_ok R4).use ?_
      rintro _ h8 ⟨rfl, R8, C8⟩
      obtain ⟨h9, e9, l9, _, R9, C9⟩ := fin_q (h0 := h) (D := fun b => b = h.size) (p := pE) (d := rc0) (Ch.wf C8) (Ch.var (Ch.wf C04) C8 V24 (by omega)) ReR.e rfl R8 ((C04).then C8 fun b e => .inr e) (Nat.le_refl _) hr
      simp only [wk, wt, wl, ↓reduceIte, Nat.reduceEqDiff, Nat.reduceAdd, Nat.zero_add, not_false_eq_true, not_true_eq_false, t2, pt, build_re0, e9, l9]
      exact ⟨pE, rc0, rfl, ReR.e, C9, .inr ⟨_, _, (by rw [HMM]; unfold setR; rw [hfn]), by decide, R9⟩⟩
    have d1 : decide ((j : Int) < (P.length : Int)) = true := decide_eq_true (by omega)
    obtain ⟨y, hy⟩ : ∃ y, P[j]? = some y := ⟨_, List.getElem?_eq_getElem cj⟩
    have IX := ((R4).2.1.ix hy).1
    have LX := ((R4).2.1.ix hy).2
    have w1 : IntKind.i64.wrap ((j : Int) + 1) = ((j + 1 : Nat) : Int) := by rw [IntWalk.i64_in _ (by omega)]; omega
    by_cases cy : y = 93
    case neg =>
      have d3 : decide (¬ y = 93) = true := by simp [cy]
      simp only [wk, wt, wl, ↓reduceIte, Nat.reduceEqDiff, Nat.reduceAdd, Nat.zero_add, not_false_eq_true, not_true_eq_false, t0, t2, t3, t4, t5, pt, (R4).l0, LP, d1, IX, LX, d3, w1, intOf_int]
      exact ⟨⟨j + 1, rfl, by omega, by omega, fun m h1 h2 => by
        by_cases e : m = j
        · subst e; rw [hy]; simp [cy]
        · exact hno m h1 (by omega)⟩, by omega⟩
    have d3 : decide (¬ y = 93) = false := by simp [cy]
    have d2 : decide ((P.length : Int) ≤ (j : Int)) = false := decide_eq_false (by omega)
    simp only [wk, wt, wl, ↓reduceIte, Nat.reduceEqDiff, Nat.reduceAdd, Nat.zero_add, not_false_eq_true, not_true_eq_false, t0, t2, t3, t4, t5, pt, (R4).l0, LP, d1, IX, LX, d3, d2]
    obtain ⟨n, hn⟩ : ∃ n, j = (k + 2) + 1 + n := ⟨j - ((k + 2) + 1), by omega⟩
    have hfi : findM ((P.drop (k + 2)).drop 1) = some n := find_at (by rw [hdd, List.getElem?_drop, ← hn, hy, cy]) (fun m hm => by rw [hdd, List.getElem?_drop]; exact hno _ (by omega) (by omega))
    have hM : setM (P.drop (k + 1)) = (match spansM (n + 2) [] ((P.take j).drop (k + 2)) with | .error e => .error e | .ok s => .ok (pS s true, P.drop (j + 1))) := by
      rw [HMM]; unfold setR; rw [hfi]
      simp only
      rw [List.drop_drop, show (k + 2) + (n + 2) = j + 1 by omega, List.drop_take, show j - (k + 2) = n + 1 by omega]
      all_goals rfl
    have X0 : SetQ h h4 rb pv P k g o true nilS [] := ⟨V24, V34, OS.nil, (fun b e => by cases e), R4, C04, hz4⟩
    have hTl : (P.take j).length = j := by rw [List.length_take]; omega
    refine W_loopI (fun q tm hh => tm 0 = pt rb ∧ tm 2 = pt h.size ∧ tm 3 = pt (h.size + 1) ∧ tm 5 = .int .i64 (j : Int) ∧ ∃ (i2 : Nat) (sv : Value) (acc : List (Int × Int)) (m : Nat), tm 4 = .int .i64 (i2 : Int) ∧ SetQ h hh rb pv P k g o true sv acc ∧ i2 ≤ j ∧ j - i2 = q ∧ q < m ∧ acc.length ≤ i2 ∧ spansM (n + 2) [] ((P.take j).drop (k + 2)) = spansM m acc ((P.take j).drop i2))
      ⟨j - (k + 2), (by first | rfl | (simp only [wk, wt, wl, ↓reduceIte, Nat.reduceEqDiff, Nat.reduceAdd, Nat.zero_add, not_false_eq_true, not_true_eq_false]; done) | (simp only [wk, wt, wl, ↓reduceIte, Nat.reduceEqDiff, Nat.reduceAdd, Nat.zero_add, not_false_eq_true, not_true_eq_false]; rfl) | (simp only [wk, wt, wl, ↓reduceIte, Nat.reduceEqDiff, Nat.reduceAdd, Nat.zero_add, not_false_eq_true, not_true_eq_false, t0, pt]; done) | (simp only [wk, wt, wl, ↓reduceIte, Nat.reduceEqDiff, Nat.reduceAdd, Nat.zero_add, not_false_eq_true, not_true_eq_false, t0, pt]; rfl)), (by first | rfl | (simp only [wk, wt, wl, ↓reduceIte, Nat.reduceEqDiff, Nat.reduceAdd, Nat.zero_add, not_false_eq_true, not_true_eq_false]; done) | (simp only [wk, wt, wl, ↓reduceIte, Nat.reduceEqDiff, Nat.reduceAdd, Nat.zero_add, not_false_eq_true, not_true_eq_false]; rfl) | (simp only [wk, wt, wl, ↓reduceIte, Nat.reduceEqDiff, Nat.reduceAdd, Nat.zero_add, not_false_eq_true, not_true_eq_false, t2, pt]; done) | (simp only [wk, wt, wl, ↓reduceIte, Nat.reduceEqDiff, Nat.reduceAdd, Nat.zero_add, not_false_eq_true, not_true_eq_false, t2, pt]; rfl)), (by first | rfl | (simp only [wk, wt, wl, ↓reduceIte, Nat.reduceEqDiff, Nat.reduceAdd, Nat.zero_add, not_false_eq_true, not_true_eq_false]; done) | (simp only [wk, wt, wl, ↓reduceIte, Nat.reduceEqDiff, Nat.reduceAdd, Nat.zero_add, not_false_eq_true, not_true_eq_false]; rfl) | (simp only [wk, wt, wl, ↓reduceIte, Nat.reduceEqDiff, Nat.reduceAdd, Nat.zero_add, not_false_eq_true, not_true_eq_false, t3, pt]; done) | (simp only [wk, wt, wl, ↓reduceIte, Nat.reduceEqDiff, Nat.reduceAdd, Nat.zero_add, not_false_eq_true, not_true_eq_false, t3, pt]; rfl)), (by first | rfl | (simp only [wk, wt, wl, ↓reduceIte, Nat.reduceEqDiff, Nat.reduceAdd, Nat.zero_add, not_false_eq_true, not_true_eq_false]; done) | (simp only [wk, wt, wl, ↓reduceIte, Nat.reduceEqDiff, Nat.reduceAdd, Nat.zero_add, not_false_eq_true, not_true_eq_false]; rfl) | (simp only [wk, wt, wl, ↓reduceIte, Nat.reduceEqDiff, Nat.reduceAdd, Nat.zero_add, not_false_eq_true, not_true_eq_false, t5]; done) | (simp only [wk, wt, wl, ↓reduceIte, Nat.reduceEqDiff, Nat.reduceAdd, Nat.zero_add, not_false_eq_true, not_true_eq_false, t5]; rfl)), (k + 2), _, _, n + 2, (by first | rfl | (simp only [wk, wt, wl, ↓reduceIte, Nat.reduceEqDiff, Nat.reduceAdd, Nat.zero_add, not_false_eq_true, not_true_eq_false]; done) | (simp only [wk, wt, wl, ↓reduceIte, Nat.reduceEqDiff, Nat.reduceAdd, Nat.zero_add, not_false_eq_true, not_true_eq_false]; rfl) | (simp only [wk, wt, wl, ↓reduceIte, Nat.reduceEqDiff, Nat.reduceAdd, Nat.zero_add, not_false_eq_true, not_true_eq_false, t4]; done) | (simp only [wk, wt, wl, ↓reduceIte, Nat.reduceEqDiff, Nat.reduceAdd, Nat.zero_add, not_false_eq_true, not_true_eq_false, t4]; rfl)), X0, by omega, rfl, by omega, by simp, rfl⟩ ?_
    clear t0 t2 t3 t4 t5 X0 IX LX
    rintro q tm hh ⟨t0, t2, t3, t5, i2, sv, acc, m, t4, X, hi2, hq, hqm, hal, hg⟩
    obtain ⟨m, rfl⟩ : ∃ q, m = q + 1 := ⟨m - 1, by omega⟩
    have Hh := Ch.wf X.C
    by_cases c2 : i2 < j
    case neg =>
      have d4 : decide ((i2 : Int) < (j : Int)) = false := decide_eq_false (by omega)
      have o1 : one sv = true := Rd.one X.O.1
      obtain ⟨h5, e5, R5, C5, z5⟩ := X.R.setK Hh (j + 1)
      have V35 := Ch.var Hh C5 X.V3 (by omega)
      have V25 := Ch.var Hh C5 X.V2 (by omega)
      have S5 := Ch.rd C5 X.O.1 fun b e => by have := X.hs b e; omega
      obtain ⟨h9, e9, l9, P9, R9, C9⟩ := fin_q (h0 := h) (D := fun b => b ≤ h.size) (p := pS acc true) (d := setC sv true) (Ch.wf C5) V25 (ReR.set S5 (fun b e f => by have := X.hs b e; omega)) (Nat.le_refl _) R5 (X.C.then C5 fun b e => .inr e) (Nat.le_refl _) hr
      simp only [wk, wt, wl, ↓reduceIte, Nat.reduceEqDiff, Nat.reduceAdd, Nat.zero_add, not_false_eq_true, not_true_eq_false, t0, t2, t3, t4, t5, pt, d4, w1, e5, V35.re, e9, l9]
      have hnil : (P.take j).drop i2 = [] := List.drop_eq_nil_of_le (by omega)
      rw [hnil] at hg
      exact ⟨_, _, rfl, ReR.weak (fun b e => by show b ≤ _; have : b < h.size := e; omega) _ _ P9, C9, .inl ⟨j + 1, by rw [hM, hg]; rfl, by omega, R9⟩⟩
    have d4 : decide ((i2 : Int) < (j : Int)) = true := decide_eq_true (by omega)
    obtain ⟨x, hx⟩ : ∃ x, P[i2]? = some x := ⟨_, List.getElem?_eq_getElem (by omega)⟩
    have IX := (X.R.2.1.ix hx).1
    have LX := (X.R.2.1.ix hx).2
    have hx32 := h32 x (List.mem_of_getElem? hx)
    have cvx := cv32 hx32.1 hx32.2
    have LF := X.V3.load1 (P := prog) (t := 23) underlying23 rfl (i := 2)
    simp only [reC, setC, List.getElem?_cons_succ, List.getElem?_cons_zero] at LF
    have w5 : IntKind.i64.wrap ((i2 : Int) + 1) = ((i2 + 1 : Nat) : Int) := by rw [IntWalk.i64_in _ (by omega)]; omega
    have w6 : IntKind.i64.wrap ((i2 : Int) + 2) = ((i2 + 2 : Nat) : Int) := by rw [IntWalk.i64_in _ (by omega)]; omega
    have w7 : IntKind.i64.wrap ((i2 : Int) + 3) = ((i2 + 3 : Nat) : Int) := by rw [IntWalk.i64_in _ (by omega)]; omega
    rw [dropAt (show (P.take j)[i2]? = some x by rw [take_at c2]; exact hx)] at hg
    by_cases c3 : i2 + 2 < j
    case neg =>
      have d5 : decide (((i2 + 2 : Nat) : Int) < (j : Int)) = false := decide_eq_false (by omega)
      have hg1 := hg.trans (spans_one (fun z u e => by have := congrArg List.length e; simp at this; omega))
      rw [if_neg (by omega)] at hg1
      simp only [wk, wt, wl, ↓reduceIte, Nat.reduceEqDiff, Nat.reduceAdd, Nat.zero_add, not_false_eq_true, not_true_eq_false, t0, t2, t3, t4, t5, pt, d4, w6, d5]
      obtain ⟨v8, h8, h9, q1, q2, q3, X9⟩ := X.push hr (x, x) (by omega)
      have q1' : aappend prog (hh.new 50 [.int .i64 x, .int .i64 x]) 23 23 sv (.slice (some ⟨hh.size, 0, none⟩) 1 2) = some (v8, h8) := q1
      refine adraw_order [(0, false), (1, false), (2, false), (3, false), (4, false), (5, false), (6, false), (7, false), (8, false), (9, false), (10, false), (11, false), (12, false), (13, false), (14, false), (15, false), (16, false), (17, false), (18, false), (19, true), (20, true), (21, false), (22, false)] mixed (by kernel_rfl) (by kernel_rfl) (by kernel_rfl) (by with_reducible repeat (first | exact PF_retK | refine PF_thenK ?_ | refine PF_blockK ?_)) ?_
      simp only [wk, wt, wl, ↓reduceIte, Nat.reduceEqDiff, Nat.reduceAdd, Nat.zero_add, not_false_eq_true, not_true_eq_false, dK_t, t0, t2, t3, t4, t5, pt, LF, X.R.l0, IX, LX, cvx, w5, build_sp, bsSp]
      refine ⟨(Keeps.new Hh 50 [.int .i64 x, .int .i64 x]).reads Hh, ?_⟩
      simp only [wk, wt, wl, ↓reduceIte, Nat.reduceEqDiff, Nat.reduceAdd, Nat.zero_add, not_false_eq_true, not_true_eq_false, dK_t, t0, t2, t3, t4, t5, pt, q1', q2, IX, LX, cvx, w5, intOf_int]
      refine ⟨q3, ?_⟩
      exact ⟨j - (i2 + 1), by omega, i2 + 1, v8, _, m, rfl, X9, by omega, rfl, by omega, by simp; omega, hg1⟩
    have d5 : decide (((i2 + 2 : Nat) : Int) < (j : Int)) = true := decide_eq_true (by omega)
    obtain ⟨y2, hy2⟩ : ∃ x, P[i2 + 1]? = some x := ⟨_, List.getElem?_eq_getElem (by omega)⟩
    obtain ⟨z2, hz2⟩ : ∃ x, P[i2 + 2]? = some x := ⟨_, List.getElem?_eq_getElem (by omega)⟩
    have IY := (X.R.2.1.ix hy2).1
    have LY := (X.R.2.1.ix hy2).2
    have IZ := (X.R.2.1.ix hz2).1
    have LZ := (X.R.2.1.ix hz2).2
    have hz32 := h32 z2 (List.mem_of_getElem? hz2)
    have cvz := cv32 hz32.1 hz32.2
    rw [dropAt (show (P.take j)[i2 + 1]? = some y2 by rw [take_at (by omega)]; exact hy2), dropAt (show (P.take j)[i2 + 1 + 1]? = some z2 by rw [take_at (by omega)]; exact hz2)] at hg
    by_cases c6 : y2 = 45
    case neg =>
      have d6 := decide_eq_false c6
      have hg1 := hg.trans (spans_one (fun z u e => c6 (by cases e; rfl)))
      rw [if_neg (by omega)] at hg1
      simp only [wk, wt, wl, ↓reduceIte, Nat.reduceEqDiff, Nat.reduceAdd, Nat.zero_add, not_false_eq_true, not_true_eq_false, t0, t2, t3, t4, t5, pt, d4, w6, d5, X.R.l0, w5, IY, LY, d6]
      obtain ⟨v8, h8, h9, q1, q2, q3, X9⟩ := X.push hr (x, x) (by omega)
      have q1' : aappend prog (hh.new 50 [.int .i64 x, .int .i64 x]) 23 23 sv (.slice (some ⟨hh.size, 0, none⟩) 1 2) = some (v8, h8) := q1
      refine adraw_order [(0, false), (1, false), (2, false), (3, false), (4, false), (5, false), (6, false), (7, false), (8, false), (9, false), (10, false), (11, false), (12, false), (13, false), (14, false), (15, false), (16, false), (17, false), (18, false), (19, true), (20, true), (21, false), (22, false)] mixed (by kernel_rfl) (by kernel_rfl) (by kernel_rfl) (by with_reducible repeat (first | exact PF_retK | refine PF_thenK ?_ | refine PF_blockK ?_)) ?_
      simp only [wk, wt, wl, ↓reduceIte, Nat.reduceEqDiff, Nat.reduceAdd, Nat.zero_add, not_false_eq_true, not_true_eq_false, dK_t, t0, t2, t3, t4, t5, pt, LF, X.R.l0, IX, LX, cvx, w5, build_sp, bsSp]
      refine ⟨(Keeps.new Hh 50 [.int .i64 x, .int .i64 x]).reads Hh, ?_⟩
      simp only [wk, wt, wl, ↓reduceIte, Nat.reduceEqDiff, Nat.reduceAdd, Nat.zero_add, not_false_eq_true, not_true_eq_false, dK_t, t0, t2, t3, t4, t5, pt, q1', q2, IX, LX, cvx, w5, intOf_int]
      refine ⟨q3, ?_⟩
      exact ⟨j - (i2 + 1), by omega, i2 + 1, v8, _, m, rfl, X9, by omega, rfl, by omega, by simp; omega, by rw [hg1, dropAt (show (P.take j)[i2 + 1]? = some y2 by rw [take_at (by omega)]; exact hy2), dropAt (show (P.take j)[i2 + 1 + 1]? = some z2 by rw [take_at (by omega)]; exact hz2)]⟩
    have d6 := decide_eq_true c6
    rw [c6, spans_two] at hg
    simp only [wk, wt, wl, ↓reduceIte, Nat.reduceEqDiff, Nat.reduceAdd, Nat.zero_add, not_false_eq_true, not_true_eq_false, t0, t2, t3, t4, t5, pt, d4, w6, d5, X.R.l0, w5, IY, LY, d6]
    by_cases c7 : z2 < x
    · have d7 := decide_eq_true c7
      rw [if_pos c7] at hg
      refine adraw_order [(0, false), (1, false), (2, false), (3, false), (4, false), (5, false), (6, false), (7, false), (8, false), (9, false), (10, false), (11, false), (12, false), (13, false), (14, false), (15, false)] mixed (by kernel_rfl) (by kernel_rfl) (by kernel_rfl) (by with_reducible repeat (first | exact PF_retK | refine PF_thenK ?_ | refine PF_blockK ?_)) ?_
      simp only [wk, wt, wl, ↓reduceIte, Nat.reduceEqDiff, Nat.reduceAdd, Nat.zero_add, not_false_eq_true, not_true_eq_false, t0, t2, t3, t4, t5, pt, X.R.l0, w6, IX, LX, IZ, LZ, d7]
      refine (fail_ok X.R).use ?_
      rintro _ h8 ⟨rfl, R8, C8⟩
      obtain ⟨h9, e9, l9, _, R9, C9⟩ := fin_q (h0 := h) (D := fun b => b = h.size) (p := pE) (d := rc0) (Ch.wf C8) (Ch.var (Ch.wf X.C) C8 X.V2 (by omega)) ReR.e rfl R8 ((X.C).then C8 fun b e => .inr e) (Nat.le_refl _) hr
      simp only [wk, wt, wl, ↓reduceIte, Nat.reduceEqDiff, Nat.reduceAdd, Nat.zero_add, not_false_eq_true, not_true_eq_false, t2, pt, build_re0, e9, l9]
      exact ⟨pE, rc0, rfl, ReR.e, C9, .inr ⟨_, _, (by rw [hM, hg]), by decide, R9⟩⟩
    have d7 := decide_eq_false c7
    rw [if_neg c7] at hg
    refine adraw_order [(0, false), (1, false), (2, false), (3, false), (4, false), (5, false), (6, false), (7, false), (8, false), (9, false), (10, false), (11, false), (12, false), (13, false), (14, false), (15, false)] mixed (by kernel_rfl) (by kernel_rfl) (by kernel_rfl) (by with_reducible repeat (first | exact PF_retK | refine PF_thenK ?_ | refine PF_blockK ?_)) ?_
    simp only [wk, wt, wl, ↓reduceIte, Nat.reduceEqDiff, Nat.reduceAdd, Nat.zero_add, not_false_eq_true, not_true_eq_false, t0, t2, t3, t4, t5, pt, X.R.l0, w6, IX, LX, IZ, LZ, d7]
    obtain ⟨v8, h8, h9, q1, q2, q3, X9⟩ := X.push hr (x, z2) (by omega)
    have q1' : aappend prog (hh.new 50 [.int .i64 x, .int .i64 z2]) 23 23 sv (.slice (some ⟨hh.size, 0, none⟩) 1 2) = some (v8, h8) := q1
    refine adraw_order [(0, false), (1, false), (2, false), (3, false), (4, false), (5, false), (6, false), (7, false), (8, false), (9, false), (10, false), (11, false), (12, false), (13, false), (14, false), (15, false), (16, false), (17, false), (18, false), (19, false), (20, true), (21, true), (22, false), (23, false)] mixed (by kernel_rfl) (by kernel_rfl) (by kernel_rfl) (by with_reducible repeat (first | exact PF_retK | refine PF_thenK ?_ | refine PF_blockK ?_)) ?_
    simp only [wk, wt, wl, ↓reduceIte, Nat.reduceEqDiff, Nat.reduceAdd, Nat.zero_add, not_false_eq_true, not_true_eq_false, dK_t, t0, t2, t3, t4, t5, pt, LF, X.R.l0, IX, LX, cvx, w6, IZ, LZ, cvz, w7, build_sp, bsSp]
    refine ⟨(Keeps.new Hh 50 [.int .i64 x, .int .i64 z2]).reads Hh, ?_⟩
    simp only [wk, wt, wl, ↓reduceIte, Nat.reduceEqDiff, Nat.reduceAdd, Nat.zero_add, not_false_eq_true, not_true_eq_false, dK_t, t0, t2, t3, t4, t5, pt, q1', q2, IX, LX, cvx, w6, IZ, LZ, cvz, w7, intOf_int]
    refine ⟨q3, ?_⟩
    exact ⟨j - (i2 + 3), by omega, i2 + 3, v8, _, m, rfl, X9, by omega, rfl, by omega, by simp; omega, hg⟩
  · have hI : isM [((94 : UInt8).toNat : Int)] (P.drop (k + 1)) = false := by
      rcases hq : P.drop (k + 1) with _ | ⟨x, u⟩
      · rfl
      · show (if x = 94 then isM [] u else false) = false
        rw [if_neg (fun a => c6 ⟨u, by rw [hq, a]⟩)]
    have w3 : IntKind.i64.wrap (((k + 1 : Nat) : Int) + 1) = ((k + 1 + 1 : Nat) : Int) := by rw [IntWalk.i64_in _ (by omega)]; omega
    have hm : setM (P.drop (k + 1)) = setR false (P.drop (k + 1)) := by
      rcases hq : P.drop (k + 1) with _ | ⟨x, u⟩
      · rfl
      · exact setM_no (fun a => c6 ⟨u, by simp at a; rw [hq, a]⟩)
    simp only [wk, wt, wl, ↓reduceIte, Nat.reduceEqDiff, Nat.reduceAdd, Nat.zero_add, not_false_eq_true, not_true_eq_false, hI, pt, w3]
    refine W_loop (fun tm h' => h3 = h' ∧ tm 0 = pt rb ∧ tm 2 = pt h.size ∧ tm 3 = pt (h.size + 1) ∧ tm 4 = .int .i64 ((k + 1) : Int) ∧ ∃ j : Nat, tm 5 = .int .i64 (j : Int) ∧ (k + 1) + 1 ≤ j ∧ j ≤ P.length + 2 ∧ ∀ m, (k + 1) + 1 ≤ m → m < j → P[m]? ≠ some 93)
      (fun tm _ => (P.length - intOf (tm 5)).toNat) ⟨rfl, (by first | rfl | (simp only [wk, wt, wl, ↓reduceIte, Nat.reduceEqDiff, Nat.reduceAdd, Nat.zero_add, not_false_eq_true, not_true_eq_false]; done) | (simp only [wk, wt, wl, ↓reduceIte, Nat.reduceEqDiff, Nat.reduceAdd, Nat.zero_add, not_false_eq_true, not_true_eq_false]; rfl) | (simp only [wk, wt, wl, ↓reduceIte, Nat.reduceEqDiff, Nat.reduceAdd, Nat.zero_add, not_false_eq_true, not_true_eq_false, w1, pt]; done) | (simp only [wk, wt, wl, ↓reduceIte, Nat.reduceEqDiff, Nat.reduceAdd, Nat.zero_add, not_false_eq_true, not_true_eq_false, w1, pt]; rfl)), (by first | rfl | (simp only [wk, wt, wl, ↓reduceIte, Nat.reduceEqDiff, Nat.reduceAdd, Nat.zero_add, not_false_eq_true, not_true_eq_false]; done) | (simp only [wk, wt, wl, ↓reduceIte, Nat.reduceEqDiff, Nat.reduceAdd, Nat.zero_add, not_false_eq_true, not_true_eq_false]; rfl) | (simp only [wk, wt, wl, ↓reduceIte, Nat.reduceEqDiff, Nat.reduceAdd, Nat.zero_add, not_false_eq_true, not_true_eq_false, w1, pt]; done) | (simp only [wk, wt, wl, ↓reduceIte, Nat.reduceEqDiff, Nat.reduceAdd, Nat.zero_add, not_false_eq_true, not_true_eq_false, w1, pt]; rfl)), (by first | rfl | (simp only [wk, wt, wl, ↓reduceIte, Nat.reduceEqDiff, Nat.reduceAdd, Nat.zero_add, not_false_eq_true, not_true_eq_false]; done) | (simp only [wk, wt, wl, ↓reduceIte, Nat.reduceEqDiff, Nat.reduceAdd, Nat.zero_add, not_false_eq_true, not_true_eq_false]; rfl) | (simp only [wk, wt, wl, ↓reduceIte, Nat.reduceEqDiff, Nat.reduceAdd, Nat.zero_add, not_false_eq_true, not_true_eq_false, w1, pt]; done) | (simp only [wk, wt, wl, ↓reduceIte, Nat.reduceEqDiff, Nat.reduceAdd, Nat.zero_add, not_false_eq_true, not_true_eq_false, w1, pt]; rfl)), (by first | rfl | (simp only [wk, wt, wl, ↓reduceIte, Nat.reduceEqDiff, Nat.reduceAdd, Nat.zero_add, not_false_eq_true, not_true_eq_false]; done) | (simp only [wk, wt, wl, ↓reduceIte, Nat.reduceEqDiff, Nat.reduceAdd, Nat.zero_add, not_false_eq_true, not_true_eq_false]; rfl) | (simp only [wk, wt, wl, ↓reduceIte, Nat.reduceEqDiff, Nat.reduceAdd, Nat.zero_add, not_false_eq_true, not_true_eq_false, w1, pt, w3]; done) | (simp only [wk, wt, wl, ↓reduceIte, Nat.reduceEqDiff, Nat.reduceAdd, Nat.zero_add, not_false_eq_true, not_true_eq_false, w1, pt, w3]; rfl)), (k + 1) + 1, (by first | rfl | (simp only [wk, wt, wl, ↓reduceIte, Nat.reduceEqDiff, Nat.reduceAdd, Nat.zero_add, not_false_eq_true, not_true_eq_false]; done) | (simp only [wk, wt, wl, ↓reduceIte, Nat.reduceEqDiff, Nat.reduceAdd, Nat.zero_add, not_false_eq_true, not_true_eq_false]; rfl) | (simp only [wk, wt, wl, ↓reduceIte, Nat.reduceEqDiff, Nat.reduceAdd, Nat.zero_add, not_false_eq_true, not_true_eq_false, w1, pt, w3]; done) | (simp only [wk, wt, wl, ↓reduceIte, Nat.reduceEqDiff, Nat.reduceAdd, Nat.zero_add, not_false_eq_true, not_true_eq_false, w1, pt, w3]; rfl)), Nat.le_refl _, by omega, fun m h1 h2 => by omega⟩ ?_
    rintro tm _ ⟨rfl, t0, t2, t3, t4, j, t5, hij, hjl, hno⟩
    have LP := (R3).2.1.ln (n := (P.length : Int)) rfl
    have go : P[j]? ≠ none → P[j]? ≠ some 93 → ∃ y, P[j]? = some y ∧ y ≠ 93 := fun a b => by
      cases hy : P[j]? with
      | none => exact absurd hy a
      | some y => exact ⟨y, rfl, fun e => b (by rw [hy, e])⟩
    have HMM : setM (P.drop (k + 1)) = setR false (P.drop (k + 1)) := hm
    have hdd : (P.drop (k + 1)).drop 1 = P.drop ((k + 1) + 1) := by rw [List.drop_drop]
    by_cases cj : j < P.length
    case neg =>
      have d1 : decide ((j : Int) < (P.length : Int)) = false := decide_eq_false (by omega)
      have d2 : decide ((P.length : Int) ≤ (j : Int)) = true := decide_eq_true (by omega)
      simp only [wk, wt, wl, ↓reduceIte, Nat.reduceEqDiff, Nat.reduceAdd, Nat.zero_add, not_false_eq_true, not_true_eq_false, t0, t2, t3, t4, t5, pt, (R3).l0, LP, d1, d2]
      have hfn : findM ((P.drop (k + 1)).drop 1) = none := find_none fun m => by
        rw [hdd, List.getElem?_drop]
        by_cases hm : (k + 1) + 1 + m < j
        · exact hno _ (by omega) hm
        · rw [List.getElem?_eq_none_iff.2 (by omega)]; simp
      refine (fail_ok R3).use ?_
      rintro _ h8 ⟨rfl, R8, C8⟩
      obtain ⟨h9, e9, l9, _, R9, C9⟩ := fin_q (h0 := h) (D := fun b => b = h.size) (p := pE) (d := rc0) (Ch.wf C8) (Ch.var (Ch.wf C03) C8 V23 (by omega)) ReR.e rfl R8 ((C03).then C8 fun b e => .inr e) (Nat.le_refl _) hr
      simp only [wk, wt, wl, ↓reduceIte, Nat.reduceEqDiff, Nat.reduceAdd, Nat.zero_add, not_false_eq_true, not_true_eq_false, t2, pt, build_re0, e9, l9]
      exact ⟨pE, rc0, rfl, ReR.e, C9, .inr ⟨_, _, (by rw [HMM]; unfold setR; rw [hfn]), by decide, R9⟩⟩
    have d1 : decide ((j : Int) < (P.length : Int)) = true := decide_eq_true (by omega)
    obtain ⟨y, hy⟩ : ∃ y, P[j]? = some y := ⟨_, List.getElem?_eq_getElem cj⟩
    have IX := ((R3).2.1.ix hy).1
    have LX := ((R3).2.1.ix hy).2
    have w1 : IntKind.i64.wrap ((j : Int) + 1) = ((j + 1 : Nat) : Int) := by rw [IntWalk.i64_in _ (by omega)]; omega
    by_cases cy : y = 93
    case neg =>
      have d3 : decide (¬ y = 93) = true := by simp [cy]
      simp only [wk, wt, wl, ↓reduceIte, Nat.reduceEqDiff, Nat.reduceAdd, Nat.zero_add, not_false_eq_true, not_true_eq_false, t0, t2, t3, t4, t5, pt, (R3).l0, LP, d1, IX, LX, d3, w1, intOf_int]
      exact ⟨⟨j + 1, rfl, by omega, by omega, fun m h1 h2 => by
        by_cases e : m = j
        · subst e; rw [hy]; simp [cy]
        · exact hno m h1 (by omega)⟩, by omega⟩
    have d3 : decide (¬ y = 93) = false := by simp [cy]
    have d2 : decide ((P.length : Int) ≤ (j : Int)) = false := decide_eq_false (by omega)
    simp only [wk, wt, wl, ↓reduceIte, Nat.reduceEqDiff, Nat.reduceAdd, Nat.zero_add, not_false_eq_true, not_true_eq_false, t0, t2, t3, t4, t5, pt, (R3).l0, LP, d1, IX, LX, d3, d2]
    obtain ⟨n, hn⟩ : ∃ n, j = (k + 1) + 1 + n := ⟨j - ((k + 1) + 1), by omega⟩
    have hfi : findM ((P.drop (k + 1)).drop 1) = some n := find_at (by rw [hdd, List.getElem?_drop, ← hn, hy, cy]) (fun m hm => by rw [hdd, List.getElem?_drop]; exact hno _ (by omega) (by omega))
    have hM : setM (P.drop (k + 1)) = (match spansM (n + 2) [] ((P.take j).drop (k + 1)) with | .error e => .error e | .ok s => .ok (pS s false, P.drop (j + 1))) := by
      rw [HMM]; unfold setR; rw [hfi]
      simp only
      rw [List.drop_drop, show (k + 1) + (n + 2) = j + 1 by omega, List.drop_take, show j - (k + 1) = n + 1 by omega]
      all_goals rfl
    have X0 : SetQ h h3 rb pv P k g o false nilS [] := ⟨V23, V33, OS.nil, (fun b e => by cases e), R3, C03, hz3⟩
    have hTl : (P.take j).length = j := by rw [List.length_take]; omega
    refine W_loopI (fun q tm hh => tm 0 = pt rb ∧ tm 2 = pt h.size ∧ tm 3 = pt (h.size + 1) ∧ tm 5 = .int .i64 (j : Int) ∧ ∃ (i2 : Nat) (sv : Value) (acc : List (Int × Int)) (m : Nat), tm 4 = .int .i64 (i2 : Int) ∧ SetQ h hh rb pv P k g o false sv acc ∧ i2 ≤ j ∧ j - i2 = q ∧ q < m ∧ acc.length ≤ i2 ∧ spansM (n + 2) [] ((P.take j).drop (k + 1)) = spansM m acc ((P.take j).drop i2))
      ⟨j - (k + 1), (by first | rfl | (simp only [wk, wt, wl, ↓reduceIte, Nat.reduceEqDiff, Nat.reduceAdd, Nat.zero_add, not_false_eq_true, not_true_eq_false]; done) | (simp only [wk, wt, wl, ↓reduceIte, Nat.reduceEqDiff, Nat.reduceAdd, Nat.zero_add, not_false_eq_true, not_true_eq_false]; rfl) | (simp only [wk, wt, wl, ↓reduceIte, Nat.reduceEqDiff, Nat.reduceAdd, Nat.zero_add, not_false_eq_true, not_true_eq_false, t0, pt]; done) | (simp only [wk, wt, wl, ↓reduceIte, Nat.reduceEqDiff, Nat.reduceAdd, Nat.zero_add, not_false_eq_true, not_true_eq_false, t0, pt]; rfl)), (by first | rfl | (simp only [wk, wt, wl, ↓reduceIte, Nat.reduceEqDiff, Nat.reduceAdd, Nat.zero_add, not_false_eq_true, not_true_eq_false]; done) | (simp only [wk, wt, wl, ↓reduceIte, Nat.reduceEqDiff, Nat.reduceAdd, Nat.zero_add, not_false_eq_true, not_true_eq_false]; rfl) | (simp only [wk, wt, wl, ↓reduceIte, Nat.reduceEqDiff, Nat.reduceAdd, Nat.zero_add, not_false_eq_true, not_true_eq_false, t2, pt]; done) | (simp only [wk, wt, wl, ↓reduceIte, Nat.reduceEqDiff, Nat.reduceAdd, Nat.zero_add, not_false_eq_true, not_true_eq_false, t2, pt]; rfl)), (by first | rfl | (simp only [wk, wt, wl, ↓reduceIte, Nat.reduceEqDiff, Nat.reduceAdd, Nat.zero_add, not_false_eq_true, not_true_eq_false]; done) | (simp only [wk, wt, wl, ↓reduceIte, Nat.reduceEqDiff, Nat.reduceAdd, Nat.zero_add, not_false_eq_true, not_true_eq_false]; rfl) | (simp only [wk, wt, wl, ↓reduceIte, Nat.reduceEqDiff, Nat.reduceAdd, Nat.zero_add, not_false_eq_true, not_true_eq_false, t3, pt]; done) | (simp only [wk, wt, wl, ↓reduceIte, Nat.reduceEqDiff, Nat.reduceAdd, Nat.zero_add, not_false_eq_true, not_true_eq_false, t3, pt]; rfl)), (by first | rfl | (simp only [wk, wt, wl, ↓reduceIte, Nat.reduceEqDiff, Nat.reduceAdd, Nat.zero_add, not_false_eq_true, not_true_eq_false]; done) | (simp only [wk, wt, wl, ↓reduceIte, Nat.reduceEqDiff, Nat.reduceAdd, Nat.zero_add, not_false_eq_true, not_true_eq_false]; rfl) | (simp only [wk, wt, wl, ↓reduceIte, Nat.reduceEqDiff, Nat.reduceAdd, Nat.zero_add, not_false_eq_true, not_true_eq_false, t5]; done) | (simp only [wk, wt, wl, ↓reduceIte, Nat.reduceEqDiff, Nat.reduceAdd, Nat.zero_add, not_false_eq_true, not_true_eq_false, t5]; rfl)), (k + 1), _, _, n + 2, (by first | rfl | (simp only [wk, wt, wl, ↓reduceIte, Nat.reduceEqDiff, Nat.reduceAdd, Nat.zero_add, not_false_eq_true, not_true_eq_false]; done) | (simp only [wk, wt, wl, ↓reduceIte, Nat.reduceEqDiff, Nat.reduceAdd, Nat.zero_add, not_false_eq_true, not_true_eq_false]; rfl) | (simp only [wk, wt, wl, ↓reduceIte, Nat.reduceEqDiff, Nat.reduceAdd, Nat.zero_add, not_false_eq_true, not_true_eq_false, t4]; done) | (simp only [wk, wt, wl, ↓reduceIte, Nat.reduceEqDiff, Nat.reduceAdd, Nat.zero_add, not_false_eq_true, not_true_eq_false, t4]; rfl)), X0, by omega, rfl, by omega, by simp, rfl⟩ ?_
    clear t0 t2 t3 t4 t5 X0 IX LX
    rintro q tm hh ⟨t0, t2, t3, t5, i2, sv, acc, m, t4, X, hi2, hq, hqm, hal, hg⟩
    obtain ⟨m, rfl⟩ : ∃ q, m = q + 1 := ⟨m - 1, by omega⟩
    have Hh := Ch.wf X.C
    by_cases c2 : i2 < j
    case neg =>
      have d4 : decide ((i2 : Int) < (j : Int)) = false := decide_eq_false (by omega)
      have o1 : one sv = true := Rd.one X.O.1
      obtain ⟨h5, e5, R5, C5, z5⟩ := X.R.setK Hh (j + 1)
      have V35 := Ch.var Hh C5 X.V3 (by omega)
      have V25 := Ch.var Hh C5 X.V2 (by omega)
      have S5 := Ch.rd C5 X.O.1 fun b e => by have := X.hs b e; omega
      obtain ⟨h9, e9, l9, P9, R9, C9⟩ := fin_q (h0 := h) (D := fun b => b ≤ h.size) (p := pS acc false) (d := setC sv false) (Ch.wf C5) V25 (ReR.set S5 (fun b e f => by have := X.hs b e; omega)) (Nat.le_refl _) R5 (X.C.then C5 fun b e => .inr e) (Nat.le_refl _) hr
      simp only [wk, wt, wl, ↓reduceIte, Nat.reduceEqDiff, Nat.reduceAdd, Nat.zero_add, not_false_eq_true, not_true_eq_false, t0, t2, t3, t4, t5, pt, d4, w1, e5, V35.re, e9, l9]
      have hnil : (P.take j).drop i2 = [] := List.drop_eq_nil_of_le (by omega)
      rw [hnil] at hg
      exact ⟨_, _, rfl, ReR.weak (fun b e => by show b ≤ _; have : b < h.size := e; omega) _ _ P9, C9, .inl ⟨j + 1, by rw [hM, hg]; rfl, by omega, R9⟩⟩
    have d4 : decide ((i2 : Int) < (j : Int)) = true := decide_eq_true (by omega)
    obtain ⟨x, hx⟩ : ∃ x, P[i2]? = some x := ⟨_, List.getElem?_eq_getElem (by omega)⟩
    have IX := (X.R.2.1.ix hx).1
    have LX := (X.R.2.1.ix hx).2
    have hx32 := h32 x (List.mem_of_getElem? hx)
    have cvx := cv32 hx32.1 hx32.2
    have LF := X.V3.load1 (P := prog) (t := 23) underlying23 rfl (i := 2)
    simp only [reC, setC, List.getElem?_cons_succ, List.getElem?_cons_zero] at LF
    have w5 : IntKind.i64.wrap ((i2 : Int) + 1) = ((i2 + 1 : Nat) : Int) := by rw [IntWalk.i64_in _ (by omega)]; omega
    have w6 : IntKind.i64.wrap ((i2 : Int) + 2) = ((i2 + 2 : Nat) : Int) := by rw [IntWalk.i64_in _ (by omega)]; omega
    have w7 : IntKind.i64.wrap ((i2 : Int) + 3) = ((i2 + 3 : Nat) : Int) := by rw [IntWalk.i64_in _ (by omega)]; omega
    rw [dropAt (show (P.take j)[i2]? = some x by rw [take_at c2]; exact hx)] at hg
    by_cases c3 : i2 + 2 < j
    case neg =>
      have d5 : decide (((i2 + 2 : Nat) : Int) < (j : Int)) = false := decide_eq_false (by omega)
      have hg1 := hg.trans (spans_one (fun z u e => by have := congrArg List.length e; simp at this; omega))
      rw [if_neg (by omega)] at hg1
      simp only [wk, wt, wl, ↓reduceIte, Nat.reduceEqDiff, Nat.reduceAdd, Nat.zero_add, not_false_eq_true, not_true_eq_false, t0, t2, t3, t4, t5, pt, d4, w6, d5]
      obtain ⟨v8, h8, h9, q1, q2, q3, X9⟩ := X.push hr (x, x) (by omega)
      have q1' : aappend prog (hh.new 50 [.int .i64 x, .int .i64 x]) 23 23 sv (.slice (some ⟨hh.size, 0, none⟩) 1 2) = some (v8, h8) := q1
      refine adraw_order [(0, false), (1, false), (2, false), (3, false), (4, false), (5, false), (6, false), (7, false), (8, false), (9, false), (10, false), (11, false), (12, false), (13, false), (14, false), (15, false), (16, false), (17, false), (18, false), (19, true), (20, true), (21, false), (22, false)] mixed (by kernel_rfl) (by kernel_rfl) (by kernel_rfl) (by with_reducible repeat (first | exact PF_retK | refine PF_thenK ?_ | refine PF_blockK ?_)) ?_
      simp only [wk, wt, wl, ↓reduceIte, Nat.reduceEqDiff, Nat.reduceAdd, Nat.zero_add, not_false_eq_true, not_true_eq_false, dK_t, t0, t2, t3, t4, t5, pt, LF, X.R.l0, IX, LX, cvx, w5, build_sp, bsSp]
      refine ⟨(Keeps.new Hh 50 [.int .i64 x, .int .i64 x]).reads Hh, ?_⟩
      simp only [wk, wt, wl, ↓reduceIte, Nat.reduceEqDiff, Nat.reduceAdd, Nat.zero_add, not_false_eq_true, not_true_eq_false, dK_t, t0, t2, t3, t4, t5, pt, q1', q2, IX, LX, cvx, w5, intOf_int]
      refine ⟨q3, ?_⟩
      exact ⟨j - (i2 + 1), by omega, i2 + 1, v8, _, m, rfl, X9, by omega, rfl, by omega, by simp; omega, hg1⟩
    have d5 : decide (((i2 + 2 : Nat) : Int) < (j : Int)) = true := decide_eq_true (by omega)
    obtain ⟨y2, hy2⟩ : ∃ x, P[i2 + 1]? = some x := ⟨_, List.getElem?_eq_getElem (by omega)⟩
    obtain ⟨z2, hz2⟩ : ∃ x, P[i2 + 2]? = some x := ⟨_, List.getElem?_eq_getElem (by omega)⟩
    have IY := (X.R.2.1.ix hy2).1
    have LY := (X.R.2.1.ix hy2).2
    have IZ := (X.R.2.1.ix hz2).1
    have LZ := (X.R.2.1.ix hz2).2
    have hz32 := h32 z2 (List.mem_of_getElem? hz2)
    have cvz := cv32 hz32.1 hz32.2
    rw [dropAt (show (P.take j)[i2 + 1]? = some y2 by rw [take_at (by omega)]; exact hy2), dropAt (show (P.take j)[i2 + 1 + 1]? = some z2 by rw [take_at (by omega)]; exact hz2)] at hg
    by_cases c6 : y2 = 45
    case neg =>
      have d6 := decide_eq_false c6
      have hg1 := hg.trans (spans_one (fun z u e => c6 (by cases e; rfl)))
      rw [if_neg (by omega)] at hg1
      simp only [wk, wt, wl, ↓reduceIte, Nat.reduceEqDiff, Nat.reduceAdd, Nat.zero_add, not_false_eq_true, not_true_eq_false, t0, t2, t3, t4, t5, pt, d4, w6, d5, X.R.l0, w5, IY, LY, d6]
      obtain ⟨v8, h8, h9, q1, q2, q3, X9⟩ := X.push hr (x, x) (by omega)
      have q1' : aappend prog (hh.new 50 [.int .i64 x, .int .i64 x]) 23 23 sv (.slice (some ⟨hh.size, 0, none⟩) 1 2) = some (v8, h8) := q1
      refine adraw_order [(0, false), (1, false), (2, false), (3, false), (4, false), (5, false), (6, false), (7, false), (8, false), (9, false), (10, false), (11, false), (12, false), (13, false), (14, false), (15, false), (16, false), (17, false), (18, false), (19, true), (20, true), (21, false), (22, false)] mixed (by kernel_rfl) (by kernel_rfl) (by kernel_rfl) (by with_reducible repeat (first | exact PF_retK | refine PF_thenK ?_ | refine PF_blockK ?_)) ?_
      simp only [wk, wt, wl, ↓reduceIte, Nat.reduceEqDiff, Nat.reduceAdd, Nat.zero_add, not_false_eq_true, not_true_eq_false, dK_t, t0, t2, t3, t4, t5, pt, LF, X.R.l0, IX, LX, cvx, w5, build_sp, bsSp]
      refine ⟨(Keeps.new Hh 50 [.int .i64 x, .int .i64 x]).reads Hh, ?_⟩
      simp only [wk, wt, wl, ↓reduceIte, Nat.reduceEqDiff, Nat.reduceAdd, Nat.zero_add, not_false_eq_true, not_true_eq_false, dK_t, t0, t2, t3, t4, t5, pt, q1', q2, IX, LX, cvx, w5, intOf_int]
      refine ⟨q3, ?_⟩
      exact ⟨j - (i2 + 1), by omega, i2 + 1, v8, _, m, rfl, X9, by omega, rfl, by omega, by simp; omega, by rw [hg1, dropAt (show (P.take j)[i2 + 1]? = some y2 by rw [take_at (by omega)]; exact hy2), dropAt (show (P.take j)[i2 + 1 + 1]? = some z2 by rw [take_at (by omega)]; exact hz2)]⟩
    have d6 := decide_eq_true c6
    rw [c6, spans_two] at hg
    simp only [wk, wt, wl, ↓reduceIte, Nat.reduceEqDiff, Nat.reduceAdd, Nat.zero_add, not_false_eq_true, not_true_eq_false, t0, t2, t3, t4, t5, pt, d4, w6, d5, X.R.l0, w5, IY, LY, d6]
    by_cases c7 : z2 < x
    · have d7 := decide_eq_true c7
      rw [if_pos c7] at hg
      refine adraw_order [(0, false), (1, false), (2, false), (3, false), (4, false), (5, false), (6, false), (7, false), (8, false), (9, false), (10, false), (11, false), (12, false), (13, false), (14, false), (15, false)] mixed (by kernel_rfl) (by kernel_rfl) (by kernel_rfl) (by with_reducible repeat (first | exact PF_retK | refine PF_thenK ?_ | refine PF_blockK ?_)) ?_
      simp only [wk, wt, wl, ↓reduceIte, Nat.reduceEqDiff, Nat.reduceAdd, Nat.zero_add, not_false_eq_true, not_true_eq_false, t0, t2, t3, t4, t5, pt, X.R.l0, w6, IX, LX, IZ, LZ, d7]
      refine (fail_ok X.R).use ?_
      rintro _ h8 ⟨rfl, R8, C8⟩
      obtain ⟨h9, e9, l9, _, R9, C9⟩ := fin_q (h0 := h) (D := fun b => b = h.size) (p := pE) (d := rc0) (Ch.wf C8) (Ch.var (Ch.wf X.C) C8 X.V2 (by omega)) ReR.e rfl R8 ((X.C).then C8 fun b e => .inr e) (Nat.le_refl _) hr
      simp only [wk, wt, wl, ↓reduceIte, Nat.reduceEqDiff, Nat.reduceAdd, Nat.zero_add, not_false_eq_true, not_true_eq_false, t2, pt, build_re0, e9, l9]
      exact ⟨pE, rc0, rfl, ReR.e, C9, .inr ⟨_, _, (by rw [hM, hg]), by decide, R9⟩⟩
    have d7 := decide_eq_false c7
    rw [if_neg c7] at hg
    refine adraw_order [(0, false), (1, false), (2, false), (3, false), (4, false), (5, false), (6, false), (7, false), (8, false), (9, false), (10, false), (11, false), (12, false), (13, false), (14, false), (15, false)] mixed (by kernel_rfl) (by kernel_rfl) (by kernel_rfl) (by with_reducible repeat (first | exact PF_retK | refine PF_thenK ?_ | refine PF_blockK ?_)) ?_
    simp only [wk, wt, wl, ↓reduceIte, Nat.reduceEqDiff, Nat.reduceAdd, Nat.zero_add, not_false_eq_true, not_true_eq_false, t0, t2, t3, t4, t5, pt, X.R.l0, w6, IX, LX, IZ, LZ, d7]
    obtain ⟨v8, h8, h9, q1, q2, q3, X9⟩ := X.push hr (x, z2) (by omega)
    have q1' : aappend prog (hh.new 50 [.int .i64 x, .int .i64 z2]) 23 23 sv (.slice (some ⟨hh.size, 0, none⟩) 1 2) = some (v8, h8) := q1
    refine adraw_order [(0, false), (1, false), (2, false), (3, false), (4, false), (5, false), (6, false), (7, false), (8, false), (9, false), (10, false), (11, false), (12, false), (13, false), (14, false), (15, false), (16, false), (17, false), (18, false), (19, false), (20, true), (21, true), (22, false), (23, false)] mixed (by kernel_rfl) (by kernel_rfl) (by kernel_rfl) (by with_reducible repeat (first | exact PF_retK | refine PF_thenK ?_ | refine PF_blockK ?_)) ?_
    simp only [wk, wt, wl, ↓reduceIte, Nat.reduceEqDiff, Nat.reduceAdd, Nat.zero_add, not_false_eq_true, not_true_eq_false, dK_t, t0, t2, t3, t4, t5, pt, LF, X.R.l0, IX, LX, cvx, w6, IZ, LZ, cvz, w7, build_sp, bsSp]
    refine ⟨(Keeps.new Hh 50 [.int .i64 x, .int .i64 z2]).reads Hh, ?_⟩
    simp only [wk, wt, wl, ↓reduceIte, Nat.reduceEqDiff, Nat.reduceAdd, Nat.zero_add, not_false_eq_true, not_true_eq_false, dK_t, t0, t2, t3, t4, t5, pt, q1', q2, IX, LX, cvx, w6, IZ, LZ, cvz, w7, intOf_int]
    refine ⟨q3, ?_⟩
    exact ⟨j - (i2 + 3), by omega, i2 + 3, v8, _, m, rfl, X9, by omega, rfl, by omega, by simp; omega, hg⟩
end Go.Proofs.Ytnnkcbkenofhmaa.Am
end
section
/- Patterns, the document's reader: contracts of group, atom, by walks. -/
set_option linter.unusedSimpArgs false
set_option linter.unusedVariables false
set_option maxHeartbeats 4000000
set_option maxRecDepth 20000
namespace Go.Proofs.Ytnnkcbkenofhmaa.Am
open Go Go.RowKit Go.Proofs.Try
/-- What the document's reader answers: a part, or what is wrong. -/
def DC (f : FuncId) (args : Array Value) (h : Heap) (rb : Nat) (pv : Value) (P : List Int) (o : Int) (res : PRes) : Prop := ACalls prog f args h (fun y h' => ∃ q c, y = reV c ∧ ReR h' (Lt h.size) q c ∧ Ch (Bx rb) h h' ∧
  ((∃ (k' : Nat) (g' : Int), res = .ok (q, P.drop k', g') ∧ k' ≤ P.length ∧ QD h' rb pv P k' g' o 0) ∨ (∃ (e : Int) (k' : Nat) (g' o' : Int), res = .error e ∧ e ≠ 0 ∧ QD h' rb pv P k' g' o' e)))
def PO (P : List Int) : Prop := P.length ≤ 10000000 ∧ I32 P
/-- All alternatives, so many more groups one within the other. -/
def AltD (k : Nat) : Prop := ∀ (h : Heap) (rb : Nat) (pv : Value) (P : List Int) (i : Nat) (g : Int), QD h rb pv P i g (16 - (k : Int)) 0 → i ≤ P.length → PO P → Okl (P.drop i) g → DC 23 #[pt rb] h rb pv P (16 - (k : Int)) (altM (grpM k) (P.drop i) g)
theorem groupQ_ok {k : Nat} (hk : k ≤ 16) (G : ∀ j, k = j + 1 → AltD j) {h : Heap} {rb : Nat} {pv : Value} {P : List Int} {i : Nat} {g : Int} (R : QD h rb pv P i g (16 - (k : Int)) 0) (hP : PO P) (O : Okl (P.drop i) g) (hi2 : i + 2 ≤ P.length) :
    DC 46 #[pt rb] h rb pv P (16 - (k : Int)) (grpM k (P.drop (i + 2)) g) := by
  unfold DC
  refine acalls_of_W' func46 rfl (by kernel_rfl) (by kernel_rfl) (by simp [ntmps46]) ?_
  intro H
  have hr := R.lt H
  have hPl := hP.1
  have N1 := Keeps.new H 26 (reC rc0)
  have V1 := Var.new (e := 26) H (cs := reC rc0)
  have R1 := R.keeps H N1
  have C1 : Ch (Bx rb) h (h.new 26 (reC rc0)) := N1.mono fun _ e => e.elim
  have hz1 : (h.new 26 (reC rc0)).size = h.size + 1 := rfl
  have wo : IntKind.i64.wrap (16 - (k : Int) + 1) = 17 - (k : Int) := by rw [IntWalk.i64_in _ (by omega)]; omega
  obtain ⟨h2, e2, R2, C2, z2⟩ := R1.setO (Ch.wf N1) (17 - (k : Int))
  have C02 : Ch (Bx rb) h h2 := C1.then C2 fun b e => .inr e
  have V2 := Ch.var (Ch.wf N1) C2 V1 (by omega)
  rcases k with _ | k
  · have d6 : decide (16 < 17 - ((0 : Nat) : Int)) = true := rfl
    simp only [wk, wt, wl, ↓reduceIte, Nat.reduceEqDiff, Nat.reduceAdd, Nat.zero_add, not_false_eq_true, not_true_eq_false, pt, newRe, newSz, R1.l3, wo, e2, R2.l3, d6]
    refine (fail_ok R2).use ?_
    rintro _ h8 ⟨rfl, R8, C8⟩
    obtain ⟨h9, e9, l9, _, R9, C9⟩ := fin_q (h0 := h) (D := fun b => b = h.size) (p := pE) (d := rc0) (Ch.wf C8) (Ch.var (Ch.wf C02) C8 V2 (by omega)) ReR.e rfl R8 ((C02).then C8 fun b e => .inr e) (Nat.le_refl _) hr
    simp only [wk, wt, wl, ↓reduceIte, Nat.reduceEqDiff, Nat.reduceAdd, Nat.zero_add, not_false_eq_true, not_true_eq_false, pt, build_re0, e9, l9]
    exact ⟨pE, rc0, rfl, ReR.e, C9, .inr ⟨_, _, _, _, rfl, by decide, R9⟩⟩
  have d6 : decide (16 < 17 - ((k + 1 : Nat) : Int)) = false := decide_eq_false (by omega)
  have hgb : g + 1 ≤ 10000000 ∧ 0 ≤ g := by have := O.1; have := O.2.1; rw [List.length_drop] at *; omega
  have wg : IntKind.i64.wrap (g + 1) = g + 1 := IntWalk.i64_in _ (by omega)
  have w2 : IntKind.i64.wrap ((i : Int) + 2) = ((i + 2 : Nat) : Int) := by rw [IntWalk.i64_in _ (by omega)]; omega
  obtain ⟨h3, e3, R3, C3, z3⟩ := R2.setG (Ch.wf C2) (g + 1)
  obtain ⟨h4, e4, R4, C4, z4⟩ := R3.setK (Ch.wf C3) (i + 2)
  have C04 : Ch (Bx rb) h h4 := (C02.then C3 fun b e => .inr e).then C4 fun b e => .inr e
  have V4 := Ch.var (Ch.wf C3) C4 (Ch.var (Ch.wf C2) C3 V2 (by omega)) (by omega)
  have hoo : (17 - ((k + 1 : Nat) : Int)) = 16 - (k : Int) := by omega
  rw [hoo] at R4
  have O4 : Okl (P.drop (i + 2)) (g + 1) := ⟨by have := O.1; rw [List.length_drop] at *; omega, by omega, fun x hx => hP.2 x (List.mem_of_mem_drop hx)⟩
  simp only [wk, wt, wl, ↓reduceIte, Nat.reduceEqDiff, Nat.reduceAdd, Nat.zero_add, not_false_eq_true, not_true_eq_false, pt, newRe, newSz, R1.l3, wo, e2, R2.l3, d6, R2.l2, wg, e3, R3.l2, R3.l1, w2, e4]
  refine (G k rfl h4 rb pv P (i + 2) (g + 1) R4 hi2 hP O4).use ?_
  rintro _ h6 ⟨q, c, rfl, P6, C6, hcase⟩
  have hz4 : h4.size = h.size + 1 := by omega
  have hz6 := Ch.le C6
  have C06 : Ch (Bx rb) h h6 := C04.then C6 fun b e => .inr e
  have V6 := Ch.var (Ch.wf C4) C6 V4 (by omega)
  have N7 := Keeps.new (Ch.wf C6) 26 (reC rc0)
  obtain ⟨h7, e7, V7, C7, z7⟩ := (Var.new (e := 26) (Ch.wf C6) (cs := reC rc0)).put (Ch.wf N7) (d := c) P6.one1.1 P6.one1.2
  have K7 : Keeps h6 h7 := N7.step C7 fun b e => by omega
  have z7' : h7.size = h6.size + 1 := z7
  have C07 : Ch (Bx rb) h h7 := C06.then K7 fun b e => e.elim
  have V67 := Keeps.var (Ch.wf C6) K7 V6
  rcases hcase with ⟨k', g', hres, hk', R6⟩ | ⟨e, k', g', o', hres, he, R6⟩
  · have R7 := R6.keeps (Ch.wf C6) K7
    have d7 : decide (¬ (0 : Int) = 0) = false := rfl
    simp only [wk, wt, wl, ↓reduceIte, Nat.reduceEqDiff, Nat.reduceAdd, Nat.zero_add, not_false_eq_true, not_true_eq_false, pt, newRe, newSz, e7, R7.l4, d7]
    refine adraw_order [(0, false), (1, false), (2, false), (3, false), (4, false), (5, false), (6, false), (7, false), (8, false), (9, false)] mixed (by kernel_rfl) (by kernel_rfl) (by kernel_rfl) (by with_reducible repeat (first | exact PF_retK | refine PF_thenK ?_ | refine PF_blockK ?_)) ?_
    have LP := R7.2.1.ln (n := (P.length : Int)) rfl
    have cl := altM_len (grpM_GL k) hres
    have hM : grpM (k + 1) (P.drop (i + 2)) g = if (P.drop k').length = 0 then .error 10 else .ok (pG (g + 1) q, (P.drop k').drop 2, g') := by
      simp only [grpM]; rw [hres]
    by_cases c8 : P.length ≤ k'
    · have d8 : decide ((P.length : Int) ≤ (k' : Int)) = true := decide_eq_true (by omega)
      rw [if_pos (by rw [List.length_drop]; omega)] at hM
      simp only [wk, wt, wl, ↓reduceIte, Nat.reduceEqDiff, Nat.reduceAdd, Nat.zero_add, not_false_eq_true, not_true_eq_false, pt, R7.l1, R7.l0, LP, d8]
      refine (fail_ok R7).use ?_
      rintro _ h8 ⟨rfl, R8, C8⟩
      obtain ⟨h9, e9, l9, _, R9, C9⟩ := fin_q (h0 := h) (D := fun b => b = h.size) (p := pE) (d := rc0) (Ch.wf C8) (Ch.var (Ch.wf C07) C8 V67 (by omega)) ReR.e rfl R8 ((C07).then C8 fun b e => .inr e) (Nat.le_refl _) hr
      simp only [wk, wt, wl, ↓reduceIte, Nat.reduceEqDiff, Nat.reduceAdd, Nat.zero_add, not_false_eq_true, not_true_eq_false, pt, build_re0, e9, l9]
      exact ⟨pE, rc0, rfl, ReR.e, C9, .inr ⟨_, _, _, _, hM, by decide, R9⟩⟩
    · have d8 : decide ((P.length : Int) ≤ (k' : Int)) = false := decide_eq_false (by omega)
      have hne : (P.drop k').length ≠ 0 := by rw [List.length_drop]; omega
      rw [if_neg hne, List.drop_drop] at hM
      obtain ⟨u, hu⟩ := closes cl.2.1 cl.2.2 hne
      have u1 := drop_next hu
      have u2 := drop_next u1.1
      have w5 : IntKind.i64.wrap ((k' : Int) + 2) = ((k' + 2 : Nat) : Int) := by rw [IntWalk.i64_in _ (by omega)]; omega
      have w6 : IntKind.i64.wrap (16 - (k : Int) - 1) = 16 - ((k + 1 : Nat) : Int) := by rw [IntWalk.i64_in _ (by omega)]; omega
      obtain ⟨h8, e8, R8, C8, z8⟩ := R7.setK (Ch.wf K7) (k' + 2)
      obtain ⟨h9, e9, R9, C9, z9⟩ := R8.setO (Ch.wf C8) (16 - ((k + 1 : Nat) : Int))
      have C79 : Ch (Bx rb) h7 h9 := C8.then C9 fun b e => .inr e
      have V9 := Ch.var (Ch.wf K7) C79 V67 (by omega)
      have V79 := Ch.var (Ch.wf K7) C79 V7 (by omega)
      have P9 : ReR h9 (Lt h4.size) q c := ReR.ch C79 (fun b e => by show b < _; have : b = rb := e; omega) q c (ReR.ch K7 (fun _ e => e.elim) q c P6)
      have N10 := Keeps.new (Ch.wf C79) 26 (reC c)
      have S10 : RS prog (h9.new 26 (reC c)) 7 reC (.slice (some ⟨h9.size, 0, none⟩) 1 2) [c] := Rd.new (Ch.wf C79) asz26 rfl
      have PG : ReR (h9.new 26 (reC c)) (Lt (h.size + 1)) (pG (g + 1) q) { rc0 with k := 11, lo := g + 1, pv := .slice (some ⟨h9.size, 0, none⟩) 1 2 } := ReR.ps (l := [c]) S10 (fun b e f => by
        have e2 : h9.size = b := by cases e; rfl
        have : b < h.size + 1 := f
        omega) (RePs.one (ReR.ch N10 (fun _ e => e.elim) q c (ReR.weak (fun b e => by show b < _; have : b < h.size + 1 := e; omega) q c P9)))
      obtain ⟨h11, e11, l11, P11, R11, C11⟩ := fin_q (h0 := h) (d := { rc0 with k := 11, lo := g + 1, pv := .slice (some ⟨h9.size, 0, none⟩) 1 2 }) (Ch.wf N10) (Keeps.var (Ch.wf C79) N10 V9) PG (Nat.lt_succ_self _) (R9.keeps (Ch.wf C79) N10) ((C07.then C79 fun b e => .inr e).then N10 fun _ e => e.elim) (Nat.le_refl _) hr
      simp only [wk, wt, wl, ↓reduceIte, Nat.reduceEqDiff, Nat.reduceAdd, Nat.zero_add, not_false_eq_true, not_true_eq_false, pt, R7.l1, R7.l0, LP, d8, w5, e8, R8.l3, w6, e9, V79.re, bsRe (h := h9) P6.one1.1 P6.one1.2, build_relp (one_slice), e11, l11]
      exact ⟨_, _, rfl, ReR.weak (fun b e => by show b < _; have : b < h.size := e; omega) _ _ P11, C11, .inl ⟨_, _, hM, u2.2, R11⟩⟩
  · have R7 := R6.keeps (Ch.wf C6) K7
    have d7 : decide (¬ e = 0) = true := decide_eq_true he
    obtain ⟨h9, e9, l9, _, R9, C9⟩ := fin_q (h0 := h) (D := fun b => b = h.size) (p := pE) (d := rc0) (Ch.wf K7) V67 ReR.e rfl R7 C07 (Nat.le_refl _) hr
    simp only [wk, wt, wl, ↓reduceIte, Nat.reduceEqDiff, Nat.reduceAdd, Nat.zero_add, not_false_eq_true, not_true_eq_false, pt, newRe, newSz, e7, R7.l4, d7, build_re0, e9, l9]
    exact ⟨pE, rc0, rfl, ReR.e, C9, .inr ⟨e, _, _, _, by simp only [grpM]; rw [hres], he, R9⟩⟩
theorem atomQ_ok {k : Nat} (hk : k ≤ 16) (G : ∀ j, k = j + 1 → AltD j) {h : Heap} {rb : Nat} {pv : Value} {P : List Int} {i : Nat} {g : Int} {first fz : Bool} (R : QD h rb pv P i g (16 - (k : Int)) 0) (hP : PO P) (O : Okl (P.drop i) g) (he : endedM (P.drop i) = false) :
    DC 36 #[pt rb, .bool first, .bool fz] h rb pv P (16 - (k : Int)) (atomM (grpM k) first (P.drop i) g) := by
  unfold DC
  refine acalls_of_W' func36 rfl (by kernel_rfl) (by kernel_rfl) (by simp [ntmps36]) ?_
  intro H
  have hr := R.lt H
  have hPl := hP.1
  have N1 := Keeps.new H 26 (reC rc0)
  have V1 := Var.new (e := 26) H (cs := reC rc0)
  have R1 := R.keeps H N1
  have C1 : Ch (Bx rb) h (h.new 26 (reC rc0)) := N1.mono fun _ e => e.elim
  have hz1 : (h.new 26 (reC rc0)).size = h.size + 1 := rfl
  have hil : i < P.length := by have := ended_ne he; rw [List.length_drop] at this; omega
  obtain ⟨x, hx⟩ : ∃ x, P[i]? = some x := ⟨_, List.getElem?_eq_getElem hil⟩
  have hd := dropAt hx
  have IX := (R1.2.1.ix hx).1
  have LX := (R1.2.1.ix hx).2
  have LP := R1.2.1.ln (n := (P.length : Int)) rfl
  have w1 : IntKind.i64.wrap ((i : Int) + 1) = ((i + 1 : Nat) : Int) := by rw [IntWalk.i64_in _ (by omega)]; omega
  rw [hd]
  simp only [wk, wt, wl, ↓reduceIte, Nat.reduceEqDiff, Nat.reduceAdd, Nat.zero_add, not_false_eq_true, not_true_eq_false, pt, newRe, newSz]
  refine adraw_order [(0, false), (1, false), (2, false), (3, false), (4, false), (5, false), (6, false), (7, false), (8, false), (9, false), (10, false)] mixed (by kernel_rfl) (by kernel_rfl) (by kernel_rfl) (by with_reducible repeat (first | exact PF_retK | refine PF_thenK ?_ | refine PF_blockK ?_)) ?_
  by_cases c1 : x = 46
  · have d1 := decide_eq_true c1
    subst c1
    simp only [wk, wt, wl, ↓reduceIte, Nat.reduceEqDiff, Nat.reduceAdd, Nat.zero_add, not_false_eq_true, not_true_eq_false, pt, R1.l0, R1.l1, IX, LX, d1]
    refine ((kind_ok R1 (kd := 2) (j := 1) (k' := i + 1) (by omega) (by omega))).use ?_
    rintro _ h8 ⟨rfl, R8, C8⟩
    obtain ⟨h9, e9, l9, _, R9, C9⟩ := fin_q (h0 := h) (D := fun b => b = h.size) (p := (pK 2)) (d := { rc0 with k := 2 }) (Ch.wf C8) (Ch.var (Ch.wf C1) C8 V1 (by omega)) ReR.k rfl R8 (C1.then C8 fun b e => .inr e) (Nat.le_refl _) hr
    simp only [wk, wt, wl, ↓reduceIte, Nat.reduceEqDiff, Nat.reduceAdd, Nat.zero_add, not_false_eq_true, not_true_eq_false, pt, e9, l9]
    exact ⟨(pK 2), { rc0 with k := 2 }, rfl, ReR.k, C9, .inl ⟨_, _, (by simp [atomM, peek_one]), by omega, R9⟩⟩
  have d1 := decide_eq_false c1
  by_cases c2 : x = 91
  · have d2 := decide_eq_true c2
    subst c2
    have pk : peekM (91 :: P.drop (i + 1)) = (91, 0, 1) := peek_one (by decide)
    simp only [wk, wt, wl, ↓reduceIte, Nat.reduceEqDiff, Nat.reduceAdd, Nat.zero_add, not_false_eq_true, not_true_eq_false, pt, R1.l0, R1.l1, IX, LX, d1, d2]
    refine (setQ_ok R1 hil hPl hP.2).use ?_
    rintro _ h8 ⟨q, c, rfl, P8, C8, hcase⟩
    have hA : atomM (grpM k) first (91 :: P.drop (i + 1)) g = (match setM (P.drop (i + 1)) with | .error e => .error e | .ok (p, t) => .ok (p, t, g)) := by
      unfold atomM
      rw [pk]
      simp only [if_true, List.drop_succ_cons, List.drop_zero]
      cases setM (P.drop (i + 1)) <;> rfl
    rcases hcase with ⟨k', hres, hk', R8⟩ | ⟨e, k', hres, he', R8⟩
    · obtain ⟨h9, e9, l9, P9, R9, C9⟩ := fin_q (h0 := h) (Ch.wf C8) (Ch.var (Ch.wf C1) C8 V1 (by omega)) P8 (show h.size < _ by omega) R8 (C1.then C8 fun b e => .inr e) (Nat.le_refl _) hr
      simp only [wk, wt, wl, ↓reduceIte, Nat.reduceEqDiff, Nat.reduceAdd, Nat.zero_add, not_false_eq_true, not_true_eq_false, pt, e9, l9]
      exact ⟨q, c, rfl, ReR.weak (fun b e => by show b < _; have : b < h.size := e; omega) _ _ P9, C9, .inl ⟨_, _, by rw [hA, hres], hk', R9⟩⟩
    · obtain ⟨h9, e9, l9, P9, R9, C9⟩ := fin_q (h0 := h) (Ch.wf C8) (Ch.var (Ch.wf C1) C8 V1 (by omega)) P8 (show h.size < _ by omega) R8 (C1.then C8 fun b e => .inr e) (Nat.le_refl _) hr
      simp only [wk, wt, wl, ↓reduceIte, Nat.reduceEqDiff, Nat.reduceAdd, Nat.zero_add, not_false_eq_true, not_true_eq_false, pt, e9, l9]
      exact ⟨q, c, rfl, ReR.weak (fun b e => by show b < _; have : b < h.size := e; omega) _ _ P9, C9, .inr ⟨_, _, _, _, by rw [hA, hres], he', R9⟩⟩
  have d2 := decide_eq_false c2
  have one : x ≠ 92 → ¬ (x = 94 ∧ first = true) → ¬ (x = 36 ∧ endedM (P.drop (i + 1)) = true) → atomM (grpM k) first (x :: P.drop (i + 1)) g = .ok (pR x, P.drop (i + 1), g) := fun a1 a2 a3 => by
    unfold atomM
    rw [peek_one a1]
    simp only [List.drop_succ_cons, List.drop_zero]
    rw [if_neg c2, if_neg (by omega), if_neg a1, if_neg c1, if_neg a2, if_neg a3]
  by_cases c3 : x = 94
  · have d3 := decide_eq_true c3
    subst c3
    have d4 : decide ((94 : Int) = 36) = false := rfl
    have d5 : decide (¬ (94 : Int) = 92) = true := rfl
    cases first with
    | true =>
      simp only [wk, wt, wl, ↓reduceIte, Nat.reduceEqDiff, Nat.reduceAdd, Nat.zero_add, not_false_eq_true, not_true_eq_false, pt, R1.l0, R1.l1, IX, LX, d1, d2, d3]
      refine ((kind_ok R1 (kd := 4) (j := 1) (k' := i + 1) (by omega) (by omega))).use ?_
      rintro _ h8 ⟨rfl, R8, C8⟩
      obtain ⟨h9, e9, l9, _, R9, C9⟩ := fin_q (h0 := h) (D := fun b => b = h.size) (p := (pK 4)) (d := { rc0 with k := 4 }) (Ch.wf C8) (Ch.var (Ch.wf C1) C8 V1 (by omega)) ReR.k rfl R8 (C1.then C8 fun b e => .inr e) (Nat.le_refl _) hr
      simp only [wk, wt, wl, ↓reduceIte, Nat.reduceEqDiff, Nat.reduceAdd, Nat.zero_add, not_false_eq_true, not_true_eq_false, pt, e9, l9]
      exact ⟨(pK 4), { rc0 with k := 4 }, rfl, ReR.k, C9, .inl ⟨_, _, (by simp [atomM, peek_one]), by omega, R9⟩⟩
    | false =>
      simp only [wk, wt, wl, ↓reduceIte, Nat.reduceEqDiff, Nat.reduceAdd, Nat.zero_add, not_false_eq_true, not_true_eq_false, pt, R1.l0, R1.l1, IX, LX, d1, d2, d3, d4, d5]
      refine ((one_ok R1 (x := 94) (j := 1) (k' := i + 1) (by omega) (by omega))).use ?_
      rintro _ h8 ⟨rfl, R8, C8⟩
      obtain ⟨h9, e9, l9, _, R9, C9⟩ := fin_q (h0 := h) (D := fun b => b = h.size) (p := (pR 94)) (d := { rc0 with k := 1, r := 94 }) (Ch.wf C8) (Ch.var (Ch.wf C1) C8 V1 (by omega)) ReR.r rfl R8 (C1.then C8 fun b e => .inr e) (Nat.le_refl _) hr
      simp only [wk, wt, wl, ↓reduceIte, Nat.reduceEqDiff, Nat.reduceAdd, Nat.zero_add, not_false_eq_true, not_true_eq_false, pt, e9, l9]
      exact ⟨(pR 94), { rc0 with k := 1, r := 94 }, rfl, ReR.r, C9, .inl ⟨_, _, (one (by decide) (by simp) (fun a => absurd a.1 (by decide))), by omega, R9⟩⟩
  have d3 := decide_eq_false c3
  by_cases c4 : x = 36
  · have d4 := decide_eq_true c4
    subst c4
    have d5 : decide (¬ (36 : Int) = 92) = true := rfl
    simp only [wk, wt, wl, ↓reduceIte, Nat.reduceEqDiff, Nat.reduceAdd, Nat.zero_add, not_false_eq_true, not_true_eq_false, pt, R1.l0, R1.l1, IX, LX, d1, d2, d3, d4, w1]
    refine (ends_ok R1 (show i + 1 ≤ 20000000 by omega)).use_pure ?_
    cases hee : endedM (P.drop (i + 1)) with
    | true =>
      simp only [wk, wt, wl, ↓reduceIte, Nat.reduceEqDiff, Nat.reduceAdd, Nat.zero_add, not_false_eq_true, not_true_eq_false, pt]
      refine ((kind_ok R1 (kd := 5) (j := 1) (k' := i + 1) (by omega) (by omega))).use ?_
      rintro _ h8 ⟨rfl, R8, C8⟩
      obtain ⟨h9, e9, l9, _, R9, C9⟩ := fin_q (h0 := h) (D := fun b => b = h.size) (p := (pK 5)) (d := { rc0 with k := 5 }) (Ch.wf C8) (Ch.var (Ch.wf C1) C8 V1 (by omega)) ReR.k rfl R8 (C1.then C8 fun b e => .inr e) (Nat.le_refl _) hr
      simp only [wk, wt, wl, ↓reduceIte, Nat.reduceEqDiff, Nat.reduceAdd, Nat.zero_add, not_false_eq_true, not_true_eq_false, pt, e9, l9]
      exact ⟨(pK 5), { rc0 with k := 5 }, rfl, ReR.k, C9, .inl ⟨_, _, (by simp [atomM, peek_one, hee]), by omega, R9⟩⟩
    | false =>
      simp only [wk, wt, wl, ↓reduceIte, Nat.reduceEqDiff, Nat.reduceAdd, Nat.zero_add, not_false_eq_true, not_true_eq_false, pt, d5]
      refine ((one_ok R1 (x := 36) (j := 1) (k' := i + 1) (by omega) (by omega))).use ?_
      rintro _ h8 ⟨rfl, R8, C8⟩
      obtain ⟨h9, e9, l9, _, R9, C9⟩ := fin_q (h0 := h) (D := fun b => b = h.size) (p := (pR 36)) (d := { rc0 with k := 1, r := 36 }) (Ch.wf C8) (Ch.var (Ch.wf C1) C8 V1 (by omega)) ReR.r rfl R8 (C1.then C8 fun b e => .inr e) (Nat.le_refl _) hr
      simp only [wk, wt, wl, ↓reduceIte, Nat.reduceEqDiff, Nat.reduceAdd, Nat.zero_add, not_false_eq_true, not_true_eq_false, pt, e9, l9]
      exact ⟨(pR 36), { rc0 with k := 1, r := 36 }, rfl, ReR.r, C9, .inl ⟨_, _, (one (by decide) (by simp) (by simp [hee])), by omega, R9⟩⟩
  have d4 := decide_eq_false c4
  by_cases c5 : x = 92
  case neg =>
    have d5 : decide (¬ x = 92) = true := by simp [c5]
    simp only [wk, wt, wl, ↓reduceIte, Nat.reduceEqDiff, Nat.reduceAdd, Nat.zero_add, not_false_eq_true, not_true_eq_false, pt, R1.l0, R1.l1, IX, LX, d1, d2, d3, d4, d5]
    refine ((one_ok R1 (x := x) (j := 1) (k' := i + 1) (by omega) (by omega))).use ?_
    rintro _ h8 ⟨rfl, R8, C8⟩
    obtain ⟨h9, e9, l9, _, R9, C9⟩ := fin_q (h0 := h) (D := fun b => b = h.size) (p := (pR x)) (d := { rc0 with k := 1, r := x }) (Ch.wf C8) (Ch.var (Ch.wf C1) C8 V1 (by omega)) ReR.r rfl R8 (C1.then C8 fun b e => .inr e) (Nat.le_refl _) hr
    simp only [wk, wt, wl, ↓reduceIte, Nat.reduceEqDiff, Nat.reduceAdd, Nat.zero_add, not_false_eq_true, not_true_eq_false, pt, e9, l9]
    exact ⟨(pR x), { rc0 with k := 1, r := x }, rfl, ReR.r, C9, .inl ⟨_, _, (one c5 (fun a => c3 a.1) (fun a => c4 a.1)), by omega, R9⟩⟩
  subst c5
  have d5 : decide (¬ (92 : Int) = 92) = false := rfl
  simp only [wk, wt, wl, ↓reduceIte, Nat.reduceEqDiff, Nat.reduceAdd, Nat.zero_add, not_false_eq_true, not_true_eq_false, pt, R1.l0, R1.l1, IX, LX, d1, d2, d3, d4, d5]
  refine adraw_order [(0, false), (1, false), (2, false), (3, false), (4, false), (5, false), (6, false), (7, false), (8, false), (9, false), (10, false), (11, false)] mixed (by kernel_rfl) (by kernel_rfl) (by kernel_rfl) (by with_reducible repeat (first | exact PF_retK | refine PF_thenK ?_ | refine PF_blockK ?_)) ?_
  by_cases c6 : i + 1 = P.length
  · have d6 : decide (((i + 1 : Nat) : Int) = (P.length : Int)) = true := decide_eq_true (by omega)
    have hnil : P.drop (i + 1) = [] := List.drop_eq_nil_of_le (by omega)
    simp only [wk, wt, wl, ↓reduceIte, Nat.reduceEqDiff, Nat.reduceAdd, Nat.zero_add, not_false_eq_true, not_true_eq_false, pt, R1.l0, R1.l1, w1, LP, d6]
    refine (fail_ok R1).use ?_
    rintro _ h8 ⟨rfl, R8, C8⟩
    obtain ⟨h9, e9, l9, _, R9, C9⟩ := fin_q (h0 := h) (D := fun b => b = h.size) (p := pE) (d := rc0) (Ch.wf C8) (Ch.var (Ch.wf C1) C8 V1 (by omega)) ReR.e rfl R8 (C1.then C8 fun b e => .inr e) (Nat.le_refl _) hr
    simp only [wk, wt, wl, ↓reduceIte, Nat.reduceEqDiff, Nat.reduceAdd, Nat.zero_add, not_false_eq_true, not_true_eq_false, pt, e9, l9]
    exact ⟨pE, rc0, rfl, ReR.e, C9, .inr ⟨_, _, _, _, (by rw [hnil]; rfl), by decide, R9⟩⟩
  have d6 : decide (((i + 1 : Nat) : Int) = (P.length : Int)) = false := decide_eq_false (by omega)
  obtain ⟨y, hy⟩ : ∃ x, P[i + 1]? = some x := ⟨_, List.getElem?_eq_getElem (by omega)⟩
  have IY := (R1.2.1.ix hy).1
  have LY := (R1.2.1.ix hy).2
  have hd2 := dropAt hy
  rw [hd2]
  have hE : atomM (grpM k) first (92 :: y :: P.drop (i + 1 + 1)) g = escM (grpM k) y (92 :: y :: P.drop (i + 1 + 1)) g := by
    unfold atomM
    rw [show peekM (92 :: y :: P.drop (i + 1 + 1)) = (92, y, 2) from rfl]
    simp only
    rw [if_neg (by decide), if_pos trivial]
  rw [hE]
  simp only [wk, wt, wl, ↓reduceIte, Nat.reduceEqDiff, Nat.reduceAdd, Nat.zero_add, not_false_eq_true, not_true_eq_false, pt, R1.l0, R1.l1, w1, LP, d6]
  refine adraw_order [(0, false), (1, false), (2, false), (3, false), (4, false), (5, false), (6, false), (7, false), (8, false), (9, false), (10, false), (11, false)] mixed (by kernel_rfl) (by kernel_rfl) (by kernel_rfl) (by with_reducible repeat (first | exact PF_retK | refine PF_thenK ?_ | refine PF_blockK ?_)) ?_
  have u0 : i + 1 + 1 = i + 2 := rfl
  by_cases e1 : y = 60
  · have f1 := decide_eq_true e1
    subst e1
    simp only [wk, wt, wl, ↓reduceIte, Nat.reduceEqDiff, Nat.reduceAdd, Nat.zero_add, not_false_eq_true, not_true_eq_false, pt, R1.l0, R1.l1, w1, IY, LY, f1]
    refine ((kind_ok R1 (kd := 6) (j := 2) (k' := i + 2) (by omega) (by omega))).use ?_
    rintro _ h8 ⟨rfl, R8, C8⟩
    obtain ⟨h9, e9, l9, _, R9, C9⟩ := fin_q (h0 := h) (D := fun b => b = h.size) (p := (pK 6)) (d := { rc0 with k := 6 }) (Ch.wf C8) (Ch.var (Ch.wf C1) C8 V1 (by omega)) ReR.k rfl R8 (C1.then C8 fun b e => .inr e) (Nat.le_refl _) hr
    simp only [wk, wt, wl, ↓reduceIte, Nat.reduceEqDiff, Nat.reduceAdd, Nat.zero_add, not_false_eq_true, not_true_eq_false, pt, e9, l9]
    exact ⟨(pK 6), { rc0 with k := 6 }, rfl, ReR.k, C9, .inl ⟨_, _, rfl, by omega, R9⟩⟩
  have f1 := decide_eq_false e1
  by_cases e2 : y = 62
  · have f2 := decide_eq_true e2
    subst e2
    simp only [wk, wt, wl, ↓reduceIte, Nat.reduceEqDiff, Nat.reduceAdd, Nat.zero_add, not_false_eq_true, not_true_eq_false, pt, R1.l0, R1.l1, w1, IY, LY, f1, f2]
    refine ((kind_ok R1 (kd := 7) (j := 2) (k' := i + 2) (by omega) (by omega))).use ?_
    rintro _ h8 ⟨rfl, R8, C8⟩
    obtain ⟨h9, e9, l9, _, R9, C9⟩ := fin_q (h0 := h) (D := fun b => b = h.size) (p := (pK 7)) (d := { rc0 with k := 7 }) (Ch.wf C8) (Ch.var (Ch.wf C1) C8 V1 (by omega)) ReR.k rfl R8 (C1.then C8 fun b e => .inr e) (Nat.le_refl _) hr
    simp only [wk, wt, wl, ↓reduceIte, Nat.reduceEqDiff, Nat.reduceAdd, Nat.zero_add, not_false_eq_true, not_true_eq_false, pt, e9, l9]
    exact ⟨(pK 7), { rc0 with k := 7 }, rfl, ReR.k, C9, .inl ⟨_, _, rfl, by omega, R9⟩⟩
  have f2 := decide_eq_false e2
  by_cases e3 : y = 125
  · have f3 := decide_eq_true e3
    subst e3
    simp only [wk, wt, wl, ↓reduceIte, Nat.reduceEqDiff, Nat.reduceAdd, Nat.zero_add, not_false_eq_true, not_true_eq_false, pt, R1.l0, R1.l1, w1, IY, LY, f1, f2, f3]
    refine (fail_ok R1).use ?_
    rintro _ h8 ⟨rfl, R8, C8⟩
    obtain ⟨h9, e9, l9, _, R9, C9⟩ := fin_q (h0 := h) (D := fun b => b = h.size) (p := pE) (d := rc0) (Ch.wf C8) (Ch.var (Ch.wf C1) C8 V1 (by omega)) ReR.e rfl R8 (C1.then C8 fun b e => .inr e) (Nat.le_refl _) hr
    simp only [wk, wt, wl, ↓reduceIte, Nat.reduceEqDiff, Nat.reduceAdd, Nat.zero_add, not_false_eq_true, not_true_eq_false, pt, e9, l9]
    exact ⟨pE, rc0, rfl, ReR.e, C9, .inr ⟨_, _, _, _, rfl, by decide, R9⟩⟩
  have f3 := decide_eq_false e3
  by_cases e4 : y = 123
  · have f4 := decide_eq_true e4
    subst e4
    simp only [wk, wt, wl, ↓reduceIte, Nat.reduceEqDiff, Nat.reduceAdd, Nat.zero_add, not_false_eq_true, not_true_eq_false, pt, R1.l0, R1.l1, w1, IY, LY, f1, f2, f3, f4]
    refine (fail_ok R1).use ?_
    rintro _ h8 ⟨rfl, R8, C8⟩
    obtain ⟨h9, e9, l9, _, R9, C9⟩ := fin_q (h0 := h) (D := fun b => b = h.size) (p := pE) (d := rc0) (Ch.wf C8) (Ch.var (Ch.wf C1) C8 V1 (by omega)) ReR.e rfl R8 (C1.then C8 fun b e => .inr e) (Nat.le_refl _) hr
    simp only [wk, wt, wl, ↓reduceIte, Nat.reduceEqDiff, Nat.reduceAdd, Nat.zero_add, not_false_eq_true, not_true_eq_false, pt, e9, l9]
    exact ⟨pE, rc0, rfl, ReR.e, C9, .inr ⟨_, _, _, _, rfl, by decide, R9⟩⟩
  have f4 := decide_eq_false e4
  by_cases e5 : y = 40
  · have f5 := decide_eq_true e5
    subst e5
    simp only [wk, wt, wl, ↓reduceIte, Nat.reduceEqDiff, Nat.reduceAdd, Nat.zero_add, not_false_eq_true, not_true_eq_false, pt, R1.l0, R1.l1, w1, IY, LY, f1, f2, f3, f4, f5]
    have hG : escM (grpM k) 40 (92 :: 40 :: P.drop (i + 1 + 1)) g = grpM k (P.drop (i + 2)) g := rfl
    rw [hG]
    refine (groupQ_ok hk G R1 hP O (by omega)).use ?_
    rintro _ h8 ⟨q, c, rfl, P8, C8, hcase⟩
    rcases hcase with ⟨k', g', hres, hk', R8⟩ | ⟨e, k', g', o', hres, he', R8⟩
    · obtain ⟨h9, e9, l9, P9, R9, C9⟩ := fin_q (h0 := h) (Ch.wf C8) (Ch.var (Ch.wf C1) C8 V1 (by omega)) P8 (show h.size < _ by omega) R8 (C1.then C8 fun b e => .inr e) (Nat.le_refl _) hr
      simp only [wk, wt, wl, ↓reduceIte, Nat.reduceEqDiff, Nat.reduceAdd, Nat.zero_add, not_false_eq_true, not_true_eq_false, pt, e9, l9]
      exact ⟨q, c, rfl, ReR.weak (fun b e => by show b < _; have : b < h.size := e; omega) _ _ P9, C9, .inl ⟨_, _, hres, hk', R9⟩⟩
    · obtain ⟨h9, e9, l9, P9, R9, C9⟩ := fin_q (h0 := h) (Ch.wf C8) (Ch.var (Ch.wf C1) C8 V1 (by omega)) P8 (show h.size < _ by omega) R8 (C1.then C8 fun b e => .inr e) (Nat.le_refl _) hr
      simp only [wk, wt, wl, ↓reduceIte, Nat.reduceEqDiff, Nat.reduceAdd, Nat.zero_add, not_false_eq_true, not_true_eq_false, pt, e9, l9]
      exact ⟨q, c, rfl, ReR.weak (fun b e => by show b < _; have : b < h.size := e; omega) _ _ P9, C9, .inr ⟨_, _, _, _, hres, he', R9⟩⟩
  have f5 := decide_eq_false e5
  simp only [wk, wt, wl, ↓reduceIte, Nat.reduceEqDiff, Nat.reduceAdd, Nat.zero_add, not_false_eq_true, not_true_eq_false, pt, R1.l0, R1.l1, w1, IY, LY, f1, f2, f3, f4, f5]
  refine ((one_ok R1 (x := y) (j := 2) (k' := i + 2) (by omega) (by omega))).use ?_
  rintro _ h8 ⟨rfl, R8, C8⟩
  obtain ⟨h9, e9, l9, _, R9, C9⟩ := fin_q (h0 := h) (D := fun b => b = h.size) (p := (pR y)) (d := { rc0 with k := 1, r := y }) (Ch.wf C8) (Ch.var (Ch.wf C1) C8 V1 (by omega)) ReR.r rfl R8 (C1.then C8 fun b e => .inr e) (Nat.le_refl _) hr
  simp only [wk, wt, wl, ↓reduceIte, Nat.reduceEqDiff, Nat.reduceAdd, Nat.zero_add, not_false_eq_true, not_true_eq_false, pt, e9, l9]
  exact ⟨(pR y), { rc0 with k := 1, r := y }, rfl, ReR.r, C9, .inl ⟨_, _, (by unfold escM; rw [if_neg e3, if_neg e4, if_neg e1, if_neg e2, if_neg e5]; rfl), by omega, R9⟩⟩
end Go.Proofs.Ytnnkcbkenofhmaa.Am
end
