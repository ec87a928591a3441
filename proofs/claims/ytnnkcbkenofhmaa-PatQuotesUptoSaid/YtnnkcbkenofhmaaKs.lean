/- Quoted runes: what they are read as, in plain terms; contracts of both Quote, by walks. -/
import Derived.Test.YtnnkcbkenofhmaaKr
import Derived.Test.YtnnkcbkenofhmaaSc
set_option linter.unusedSimpArgs false
set_option linter.unusedVariables false
set_option maxHeartbeats 4000000
set_option maxRecDepth 20000
namespace Go.Proofs.Ytnnkcbkenofhmaa.Am
open Go Go.RowKit Go.Proofs.Try
def spe (x : Int) : Prop := x = 92 ∨ x = 46 ∨ x = 91 ∨ x = 42 ∨ x = 94 ∨ x = 36
instance (x : Int) : Decidable (spe x) := by unfold spe; infer_instance
def quo : List Int → List Int
  | [] => []
  | x :: l => (if spe x then [92, x] else [x]) ++ quo l
theorem quo_app : ∀ (l : List Int) (x : Int), quo (l ++ [x]) = quo l ++ (if spe x then [92, x] else [x])
  | [], x => by simp [quo]
  | y :: l, x => by simp only [List.cons_append, quo, quo_app l x, List.append_assoc]
theorem quo_len : ∀ l : List Int, (quo l).length ≤ 2 * l.length
  | [] => Nat.le_refl _
  | x :: l => by
    have := quo_len l
    simp only [quo, List.length_append, List.length_cons]
    split <;> simp <;> omega
theorem quo_mem : ∀ {l : List Int} {y : Int}, y ∈ quo l → y = 92 ∨ y ∈ l
  | [], y, h => by simp [quo] at h
  | x :: l, y, h => by
    simp only [quo, List.mem_append] at h
    rcases h with h | h
    · split at h
      · simp at h
        rcases h with rfl | rfl
        · exact .inl rfl
        · exact .inr (by simp)
      · simp at h; subst h; exact .inr (by simp)
    · rcases quo_mem h with h | h
      · exact .inl h
      · exact .inr (by simp [h])
/-- Nothing is repeated behind a quoted rune. -/
theorem quo_rep {l : List Int} {p : Pat} : repM p (quo l) = .ok none := by
  rcases l with _ | ⟨x, l⟩
  · rfl
  · simp only [quo]
    by_cases c : spe x
    · rw [if_pos c]
      have hx : x ≠ 123 := by rintro rfl; revert c; decide
      simp [repM, peekM, hx]
    · rw [if_neg c]
      have h1 : x ≠ 92 := fun e => c (.inl e)
      have h2 : x ≠ 42 := fun e => c (.inr (.inr (.inr (.inl e))))
      simp [repM, peek_one h1, h2]
theorem quo_pie {grp : List Int → Int → PRes} : ∀ (l : List Int) (n : Nat) (acc : List Pat) (g : Int), (quo l).length < n → pieM grp n acc (quo l) g = .ok (pCat (acc ++ l.map pR), [], g)
  | [], n, acc, g, hn => by
    obtain ⟨n, rfl⟩ : ∃ q, n = q + 1 := ⟨n - 1, by omega⟩
    rw [show quo [] = [] from rfl, pieM_done rfl]; simp
  | x :: l, n, acc, g, hn => by
    obtain ⟨n, rfl⟩ : ∃ q, n = q + 1 := ⟨n - 1, by omega⟩
    have ih := quo_pie (grp := grp) l n (acc ++ [pR x]) g
    have hk : (pR x).kind ≠ 4 := by show (1 : Int) ≠ 4; decide
    have hre : repsM ((quo l).length + 1) (pR x) (quo l) = .ok (pR x, quo l) := repsM_none hk quo_rep
    have hl : (acc ++ [pR x]) ++ l.map pR = acc ++ (x :: l).map pR := by simp
    simp only [quo] at hn ⊢
    by_cases c : spe x
    · rw [if_pos c] at hn ⊢
      have he : endedM ([92, x] ++ quo l) = false := by
        have h1 : x ≠ 124 := by rintro rfl; revert c; decide
        have h2 : x ≠ 41 := by rintro rfl; revert c; decide
        simp [endedM, h1, h2]
      have ha : atomM grp acc.isEmpty ([92, x] ++ quo l) g = .ok (pR x, quo l, g) := by
        rcases c with rfl | rfl | rfl | rfl | rfl | rfl <;> rfl
      rw [pieM_step he ha hre, ih (by simp at hn; omega), hl]
    · rw [if_neg c] at hn ⊢
      have h1 : x ≠ 92 := fun e => c (.inl e)
      have h2 : x ≠ 46 := fun e => c (.inr (.inl e))
      have h3 : x ≠ 91 := fun e => c (.inr (.inr (.inl e)))
      have h4 : x ≠ 94 := fun e => c (.inr (.inr (.inr (.inr (.inl e)))))
      have h5 : x ≠ 36 := fun e => c (.inr (.inr (.inr (.inr (.inr e)))))
      have he : endedM ([x] ++ quo l) = false := by
        generalize quo l = q
        rcases q with _ | ⟨y, q⟩
        · rfl
        · simp [endedM, h1]
      have ha : atomM grp acc.isEmpty ([x] ++ quo l) g = .ok (pR x, quo l, g) := by
        simp [atomM, peek_one h1, h1, h2, h3, h4, h5]
      rw [pieM_step he ha hre, ih (by simp at hn; omega), hl]
theorem sizes_leaf {k lo hi : Int} (hk : k ≠ 10) : ∀ (l : List Int) (n : Int), 1 ≤ n → n + l.length ≤ 401 → sizesM k lo hi n (l.map pR) = n + l.length
  | [], n, _, _ => by simp [sizesM]
  | x :: l, n, h1, h2 => by
    simp only [List.map_cons, sizesM, if_neg hk]
    have hs : sizeM (pR x) = 1 := rfl
    rw [hs]
    simp only [List.length_cons] at h2 ⊢
    have M := kmin_spec (n + 1) 401
    rw [show kmin (n + 1) 401 = n + 1 by omega, sizes_leaf hk l (n + 1) (by omega) (by omega)]
    omega
theorem quo_parse {l : List Int} (hl : l.length ≤ 300) : parseR (quo l) = (pCat (l.map pR), 0) := by
  have h := quo_pie (grp := grpM 16) l ((quo l).length + 1) [] 0 (by omega)
  rw [List.nil_append] at h
  refine parseR_ok (altM_one h rfl) ?_
  rcases l with _ | ⟨x, _ | ⟨y, l⟩⟩
  · show (1 : Int) ≤ 400; omega
  · show (1 : Int) ≤ 400; omega
  · have := sizes_leaf (k := 8) (lo := 0) (hi := 0) (by decide) (x :: y :: l) 1 (by omega) (by simp only [List.length_cons] at hl ⊢; omega)
    have e : sizeM (pCat ((x :: y :: l).map pR)) = sizesM 8 0 0 1 ((x :: y :: l).map pR) := rfl
    rw [e, this]
    simp only [List.length_cons] at hl ⊢
    omega
theorem enc_all : ((List.range 128).all fun n => (Utf8.encode (n : Int)).data.toList == [n.toUInt8]) = true := by kernel_rfl
theorem has_all : ((List.range 128).all fun n => decide (0 ≤ Lib.indexByte [92, 46, 91, 42, 94, 36] n.toUInt8) == decide (spe (n : Int))) = true := by kernel_rfl
theorem enc_one {n : Nat} (h : n < 128) : Utf8.encode (n : Int) = ⟨#[n.toUInt8]⟩ := by
  have := List.all_eq_true.1 enc_all n (by simp; exact h)
  have e : (Utf8.encode (n : Int)).data.toList = [n.toUInt8] := by simpa using this
  have e2 : (Utf8.encode (n : Int)).data = #[n.toUInt8] := by apply Array.ext'; rw [e]
  cases hx : Utf8.encode (n : Int) with
  | mk d => rw [hx] at e2; exact congrArg ByteArray.mk e2
theorem has_one {n : Nat} (h : n < 128) : decide (0 ≤ Lib.indexByte [92, 46, 91, 42, 94, 36] n.toUInt8) = decide (spe (n : Int)) := by
  have := List.all_eq_true.1 has_all n (by simp; exact h)
  simpa using this
theorem cvs {n : Nat} (h : n < 128) : ∀ hh, aconv prog hh 21 9 (.int .i32 (n : Int)) = some (.string ⟨#[n.toUInt8]⟩) := fun hh => by
  simp [aconv, underlying21, underlying9, enc_one h]
theorem quote_ok {h : Heap} {lv : Value} {l : List Int} (S : RdI prog h .i32 lv l) (hl : l.length ≤ 100000000) : ACalls prog 17 #[lv] h (fun y h' => OwI h.size h' y (quo l) ∧ Keeps h h') := by
  refine acalls_of_W' func17 rfl (by kernel_rfl) (by kernel_rfl) (by simp [ntmps17]) ?_
  intro H
  have LN := S.ln (n := (l.length : Int)) rfl
  simp only [wk, wt, wl, ↓reduceIte, Nat.reduceEqDiff, Nat.reduceAdd, Nat.zero_add, not_false_eq_true, not_true_eq_false, LN]
  refine W_loop (fun tm hh => tm 6 = lv ∧ tm 7 = .int .i64 (l.length : Int) ∧ ∃ (i : Nat) (v : Value), tm 8 = .int .i64 (i : Int) ∧ tm 3 = v ∧ i ≤ l.length ∧ OwI h.size hh v (quo (l.take i)) ∧ Keeps h hh) (fun tm _ => (l.length - intOf (tm 8)).toNat)
    ⟨(by first | rfl | (simp only [wk, wt, wl, ↓reduceIte, Nat.reduceEqDiff, Nat.reduceAdd, Nat.zero_add, not_false_eq_true, not_true_eq_false]; done) | (simp only [wk, wt, wl, ↓reduceIte, Nat.reduceEqDiff, Nat.reduceAdd, Nat.zero_add, not_false_eq_true, not_true_eq_false]; rfl)), (by first | rfl | (simp only [wk, wt, wl, ↓reduceIte, Nat.reduceEqDiff, Nat.reduceAdd, Nat.zero_add, not_false_eq_true, not_true_eq_false]; done) | (simp only [wk, wt, wl, ↓reduceIte, Nat.reduceEqDiff, Nat.reduceAdd, Nat.zero_add, not_false_eq_true, not_true_eq_false]; rfl)), 0, nilS, (by first | rfl | (simp only [wk, wt, wl, ↓reduceIte, Nat.reduceEqDiff, Nat.reduceAdd, Nat.zero_add, not_false_eq_true, not_true_eq_false]; done) | (simp only [wk, wt, wl, ↓reduceIte, Nat.reduceEqDiff, Nat.reduceAdd, Nat.zero_add, not_false_eq_true, not_true_eq_false]; rfl)), (by first | rfl | (simp only [wk, wt, wl, ↓reduceIte, Nat.reduceEqDiff, Nat.reduceAdd, Nat.zero_add, not_false_eq_true, not_true_eq_false]; done) | (simp only [wk, wt, wl, ↓reduceIte, Nat.reduceEqDiff, Nat.reduceAdd, Nat.zero_add, not_false_eq_true, not_true_eq_false]; rfl) | (simp only [wk, wt, wl, ↓reduceIte, Nat.reduceEqDiff, Nat.reduceAdd, Nat.zero_add, not_false_eq_true, not_true_eq_false, nilS]; done) | (simp only [wk, wt, wl, ↓reduceIte, Nat.reduceEqDiff, Nat.reduceAdd, Nat.zero_add, not_false_eq_true, not_true_eq_false, nilS]; rfl)), by omega, OwI.nil, Keeps.refl H⟩ ?_
  rintro tm hh ⟨t6, t7, i, v, t8, t3, hi, O, K⟩
  simp only [wk, wt, wl, ↓reduceIte, Nat.reduceEqDiff, Nat.reduceAdd, Nat.zero_add, not_false_eq_true, not_true_eq_false, t6, t7, t8]
  refine condK_dec (fun hd => ?_) (fun hd => ?_)
  · have hi2 : i < l.length := by omega
    obtain ⟨x, hx⟩ : ∃ x, l[i]? = some x := ⟨_, List.getElem?_eq_getElem hi2⟩
    have hdt : quo (l.take (i + 1)) = quo (l.take i) ++ (if spe x then [92, x] else [x]) := by rw [List.take_add_one, hx]; exact quo_app _ _
    have hql := quo_len (l.take i)
    have hti : (l.take i).length ≤ i := by rw [List.length_take]; omega
    have IX := ((S.keeps K).ix hx).1
    have LX := ((S.keeps K).ix hx).2
    have wi : IntKind.i64.wrap ((i : Int) + 1) = ((i + 1 : Nat) : Int) := by rw [IntWalk.i64_in _ (by omega)]; omega
    have nsp : ¬ (0 < x ∧ x < 128) → ¬ spe x := fun a b => by unfold spe at b; omega
    by_cases c1 : 0 < x
    · have d1 := decide_eq_true c1
      by_cases c2 : x < 128
      · have d2 := decide_eq_true c2
        obtain ⟨k, rfl⟩ : ∃ k : Nat, x = (k : Int) := ⟨x.toNat, by omega⟩
        have hk : k < 128 := by omega
        have cv := cvs hk
        have hs := has_one hk
        simp only [wk, wt, wl, ↓reduceIte, Nat.reduceEqDiff, Nat.reduceAdd, Nat.zero_add, not_false_eq_true, not_true_eq_false, t6, t7, t8, t3, IX, LX, d1, d2, cv, call_contains]
        refine contains_ok.use_pure ?_
        have hs' : decide (0 ≤ Lib.indexByte (ByteArray.data ⟨#[92, 46, 91, 42, 94, 36]⟩).toList k.toUInt8) = decide (spe (k : Int)) := hs
        rw [hs']
        by_cases cs : spe (k : Int)
        · have d3 := decide_eq_true cs
          generalize hxk : (k : Int) = x at *
          obtain ⟨v2, h2, e2, O2, K2, _, _⟩ := O.lit K [92] (by simp; omega)
          obtain ⟨v3, h3, e3, O3, K3, _, _⟩ := O2.lit K2 [x] (by simp; omega)
          have e2' : aappend prog (hh.new 21 [.int .i32 92]) 22 22 v (.slice (some ⟨hh.size, 0, none⟩) 1 2) = some (v2, h2) := e2
          have e3' : aappend prog (h2.new 21 [.int .i32 x]) 22 22 v2 (.slice (some ⟨h2.size, 0, none⟩) 1 2) = some (v3, h3) := e3
          have IX2 := ((S.keeps K2).ix hx).1
          have LX2 := ((S.keeps K2).ix hx).2
          rw [if_pos cs] at hdt
          rw [List.append_assoc] at O3
          have O4 : OwI h.size h3 v3 (quo (l.take (i + 1))) := by rw [hdt]; exact O3
          simp only [wk, wt, wl, ↓reduceIte, Nat.reduceEqDiff, Nat.reduceAdd, Nat.zero_add, not_false_eq_true, not_true_eq_false, t6, t7, t8, t3, d3, e2', e3', wi, intOf_int]
          exact ⟨⟨i + 1, v3, rfl, rfl, by omega, O4, K3⟩, by omega⟩
        · have d3 := decide_eq_false cs
          generalize hxk : (k : Int) = x at *
          obtain ⟨v3, h3, e3, O3, K3, _, _⟩ := O.lit K [x] (by simp; omega)
          have e3' : aappend prog (hh.new 21 [.int .i32 x]) 22 22 v (.slice (some ⟨hh.size, 0, none⟩) 1 2) = some (v3, h3) := e3
          rw [if_neg cs] at hdt
          have O4 : OwI h.size h3 v3 (quo (l.take (i + 1))) := by rw [hdt]; exact O3
          simp only [wk, wt, wl, ↓reduceIte, Nat.reduceEqDiff, Nat.reduceAdd, Nat.zero_add, not_false_eq_true, not_true_eq_false, t6, t7, t8, t3, d3, e3', wi, intOf_int]
          exact ⟨⟨i + 1, v3, rfl, rfl, by omega, O4, K3⟩, by omega⟩
      · have d2 := decide_eq_false c2
        have cs := nsp (fun e => c2 e.2)
        obtain ⟨v3, h3, e3, O3, K3, _, _⟩ := O.lit K [x] (by simp; omega)
        have e3' : aappend prog (hh.new 21 [.int .i32 x]) 22 22 v (.slice (some ⟨hh.size, 0, none⟩) 1 2) = some (v3, h3) := e3
        rw [if_neg cs] at hdt
        have O4 : OwI h.size h3 v3 (quo (l.take (i + 1))) := by rw [hdt]; exact O3
        simp only [wk, wt, wl, ↓reduceIte, Nat.reduceEqDiff, Nat.reduceAdd, Nat.zero_add, not_false_eq_true, not_true_eq_false, t6, t7, t8, t3, IX, LX, d1, d2, e3', wi, intOf_int]
        exact ⟨⟨i + 1, v3, rfl, rfl, by omega, O4, K3⟩, by omega⟩
    · have d1 := decide_eq_false c1
      have cs := nsp (fun e => c1 e.1)
      obtain ⟨v3, h3, e3, O3, K3, _, _⟩ := O.lit K [x] (by simp; omega)
      have e3' : aappend prog (hh.new 21 [.int .i32 x]) 22 22 v (.slice (some ⟨hh.size, 0, none⟩) 1 2) = some (v3, h3) := e3
      rw [if_neg cs] at hdt
      have O4 : OwI h.size h3 v3 (quo (l.take (i + 1))) := by rw [hdt]; exact O3
      simp only [wk, wt, wl, ↓reduceIte, Nat.reduceEqDiff, Nat.reduceAdd, Nat.zero_add, not_false_eq_true, not_true_eq_false, t6, t7, t8, t3, IX, LX, d1, e3', wi, intOf_int]
      exact ⟨⟨i + 1, v3, rfl, rfl, by omega, O4, K3⟩, by omega⟩
  · obtain rfl : i = l.length := by omega
    rw [List.take_length] at O
    simp only [wk, wt, wl, ↓reduceIte, Nat.reduceEqDiff, Nat.reduceAdd, Nat.zero_add, not_false_eq_true, not_true_eq_false, t3]
    exact ⟨O, K⟩
theorem refQuote_ok {h : Heap} {lv : Value} {l : List Int} (S : RdI prog h .i32 lv l) (hl : l.length ≤ 100000000) : ACalls prog 18 #[lv] h (fun y h' => OwI h.size h' y (quo l) ∧ Keeps h h') := by
  refine acalls_of_W' func18 rfl (by kernel_rfl) (by kernel_rfl) (by simp [ntmps18]) ?_
  intro H
  simp only [wk, wt, wl, ↓reduceIte, Nat.reduceEqDiff, Nat.reduceAdd, Nat.zero_add, not_false_eq_true, not_true_eq_false]
  refine W_loop (fun tm hh => tm 0 = lv ∧ ∃ (i : Nat) (v : Value), tm 4 = .int .i64 (i : Int) ∧ tm 3 = v ∧ i ≤ l.length ∧ OwI h.size hh v (quo (l.take i)) ∧ Keeps h hh) (fun tm _ => (l.length - intOf (tm 4)).toNat)
    ⟨(by first | rfl | (simp only [wk, wt, wl, ↓reduceIte, Nat.reduceEqDiff, Nat.reduceAdd, Nat.zero_add, not_false_eq_true, not_true_eq_false]; done) | (simp only [wk, wt, wl, ↓reduceIte, Nat.reduceEqDiff, Nat.reduceAdd, Nat.zero_add, not_false_eq_true, not_true_eq_false]; rfl)), 0, nilS, (by first | rfl | (simp only [wk, wt, wl, ↓reduceIte, Nat.reduceEqDiff, Nat.reduceAdd, Nat.zero_add, not_false_eq_true, not_true_eq_false]; done) | (simp only [wk, wt, wl, ↓reduceIte, Nat.reduceEqDiff, Nat.reduceAdd, Nat.zero_add, not_false_eq_true, not_true_eq_false]; rfl)), (by first | rfl | (simp only [wk, wt, wl, ↓reduceIte, Nat.reduceEqDiff, Nat.reduceAdd, Nat.zero_add, not_false_eq_true, not_true_eq_false]; done) | (simp only [wk, wt, wl, ↓reduceIte, Nat.reduceEqDiff, Nat.reduceAdd, Nat.zero_add, not_false_eq_true, not_true_eq_false]; rfl) | (simp only [wk, wt, wl, ↓reduceIte, Nat.reduceEqDiff, Nat.reduceAdd, Nat.zero_add, not_false_eq_true, not_true_eq_false, nilS]; done) | (simp only [wk, wt, wl, ↓reduceIte, Nat.reduceEqDiff, Nat.reduceAdd, Nat.zero_add, not_false_eq_true, not_true_eq_false, nilS]; rfl)), by omega, OwI.nil, Keeps.refl H⟩ ?_
  rintro tm hh ⟨t0, i, v, t4, t3, hi, O, K⟩
  have LN := (S.keeps K).ln (n := (l.length : Int)) rfl
  simp only [wk, wt, wl, ↓reduceIte, Nat.reduceEqDiff, Nat.reduceAdd, Nat.zero_add, not_false_eq_true, not_true_eq_false, t0, t4, LN]
  refine condK_dec (fun hd => ?_) (fun hd => ?_)
  · have hi2 : i < l.length := by omega
    obtain ⟨x, hx⟩ : ∃ x, l[i]? = some x := ⟨_, List.getElem?_eq_getElem hi2⟩
    have hdt : quo (l.take (i + 1)) = quo (l.take i) ++ (if spe x then [92, x] else [x]) := by rw [List.take_add_one, hx]; exact quo_app _ _
    have hql := quo_len (l.take i)
    have hti : (l.take i).length ≤ i := by rw [List.length_take]; omega
    have IX := ((S.keeps K).ix hx).1
    have LX := ((S.keeps K).ix hx).2
    have wi : IntKind.i64.wrap ((i : Int) + 1) = ((i + 1 : Nat) : Int) := by rw [IntWalk.i64_in _ (by omega)]; omega
    have fin : spe x → (x = 92 ∨ x = 46 ∨ x = 91 ∨ x = 42 ∨ x = 94 ∨ x = 36) := id
    by_cases c1 : x = 92
    · have cs : spe x := .inl c1
      have d1 := decide_eq_true c1
      obtain ⟨v2, h2, e2, O2, K2, _, _⟩ := O.lit K [92] (by simp; omega)
      obtain ⟨v3, h3, e3, O3, K3, _, _⟩ := O2.lit K2 [x] (by simp; omega)
      have e2' : aappend prog (hh.new 21 [.int .i32 92]) 22 22 v (.slice (some ⟨hh.size, 0, none⟩) 1 2) = some (v2, h2) := e2
      have e3' : aappend prog (h2.new 21 [.int .i32 x]) 22 22 v2 (.slice (some ⟨h2.size, 0, none⟩) 1 2) = some (v3, h3) := e3
      have IX2 := ((S.keeps K2).ix hx).1
      have LX2 := ((S.keeps K2).ix hx).2
      rw [if_pos cs] at hdt
      rw [List.append_assoc] at O3
      have O4 : OwI h.size h3 v3 (quo (l.take (i + 1))) := by rw [hdt]; exact O3
      simp only [wk, wt, wl, ↓reduceIte, Nat.reduceEqDiff, Nat.reduceAdd, Nat.zero_add, not_false_eq_true, not_true_eq_false, t0, t4, t3, IX, LX, d1, e2', IX2, LX2, e3', wi, intOf_int]
      exact ⟨⟨i + 1, v3, rfl, rfl, by omega, O4, K3⟩, by omega⟩
    have d1 := decide_eq_false c1
    by_cases c2 : x = 46
    · have cs : spe x := .inr (.inl c2)
      have d2 := decide_eq_true c2
      obtain ⟨v2, h2, e2, O2, K2, _, _⟩ := O.lit K [92] (by simp; omega)
      obtain ⟨v3, h3, e3, O3, K3, _, _⟩ := O2.lit K2 [x] (by simp; omega)
      have e2' : aappend prog (hh.new 21 [.int .i32 92]) 22 22 v (.slice (some ⟨hh.size, 0, none⟩) 1 2) = some (v2, h2) := e2
      have e3' : aappend prog (h2.new 21 [.int .i32 x]) 22 22 v2 (.slice (some ⟨h2.size, 0, none⟩) 1 2) = some (v3, h3) := e3
      have IX2 := ((S.keeps K2).ix hx).1
      have LX2 := ((S.keeps K2).ix hx).2
      rw [if_pos cs] at hdt
      rw [List.append_assoc] at O3
      have O4 : OwI h.size h3 v3 (quo (l.take (i + 1))) := by rw [hdt]; exact O3
      simp only [wk, wt, wl, ↓reduceIte, Nat.reduceEqDiff, Nat.reduceAdd, Nat.zero_add, not_false_eq_true, not_true_eq_false, t0, t4, t3, IX, LX, d1, d2, e2', IX2, LX2, e3', wi, intOf_int]
      exact ⟨⟨i + 1, v3, rfl, rfl, by omega, O4, K3⟩, by omega⟩
    have d2 := decide_eq_false c2
    by_cases c3 : x = 91
    · have cs : spe x := .inr (.inr (.inl c3))
      have d3 := decide_eq_true c3
      obtain ⟨v2, h2, e2, O2, K2, _, _⟩ := O.lit K [92] (by simp; omega)
      obtain ⟨v3, h3, e3, O3, K3, _, _⟩ := O2.lit K2 [x] (by simp; omega)
      have e2' : aappend prog (hh.new 21 [.int .i32 92]) 22 22 v (.slice (some ⟨hh.size, 0, none⟩) 1 2) = some (v2, h2) := e2
      have e3' : aappend prog (h2.new 21 [.int .i32 x]) 22 22 v2 (.slice (some ⟨h2.size, 0, none⟩) 1 2) = some (v3, h3) := e3
      have IX2 := ((S.keeps K2).ix hx).1
      have LX2 := ((S.keeps K2).ix hx).2
      rw [if_pos cs] at hdt
      rw [List.append_assoc] at O3
      have O4 : OwI h.size h3 v3 (quo (l.take (i + 1))) := by rw [hdt]; exact O3
      simp only [wk, wt, wl, ↓reduceIte, Nat.reduceEqDiff, Nat.reduceAdd, Nat.zero_add, not_false_eq_true, not_true_eq_false, t0, t4, t3, IX, LX, d1, d2, d3, e2', IX2, LX2, e3', wi, intOf_int]
      exact ⟨⟨i + 1, v3, rfl, rfl, by omega, O4, K3⟩, by omega⟩
    have d3 := decide_eq_false c3
    by_cases c4 : x = 42
    · have cs : spe x := .inr (.inr (.inr (.inl c4)))
      have d4 := decide_eq_true c4
      obtain ⟨v2, h2, e2, O2, K2, _, _⟩ := O.lit K [92] (by simp; omega)
      obtain ⟨v3, h3, e3, O3, K3, _, _⟩ := O2.lit K2 [x] (by simp; omega)
      have e2' : aappend prog (hh.new 21 [.int .i32 92]) 22 22 v (.slice (some ⟨hh.size, 0, none⟩) 1 2) = some (v2, h2) := e2
      have e3' : aappend prog (h2.new 21 [.int .i32 x]) 22 22 v2 (.slice (some ⟨h2.size, 0, none⟩) 1 2) = some (v3, h3) := e3
      have IX2 := ((S.keeps K2).ix hx).1
      have LX2 := ((S.keeps K2).ix hx).2
      rw [if_pos cs] at hdt
      rw [List.append_assoc] at O3
      have O4 : OwI h.size h3 v3 (quo (l.take (i + 1))) := by rw [hdt]; exact O3
      simp only [wk, wt, wl, ↓reduceIte, Nat.reduceEqDiff, Nat.reduceAdd, Nat.zero_add, not_false_eq_true, not_true_eq_false, t0, t4, t3, IX, LX, d1, d2, d3, d4, e2', IX2, LX2, e3', wi, intOf_int]
      exact ⟨⟨i + 1, v3, rfl, rfl, by omega, O4, K3⟩, by omega⟩
    have d4 := decide_eq_false c4
    by_cases c5 : x = 94
    · have cs : spe x := .inr (.inr (.inr (.inr (.inl c5))))
      have d5 := decide_eq_true c5
      obtain ⟨v2, h2, e2, O2, K2, _, _⟩ := O.lit K [92] (by simp; omega)
      obtain ⟨v3, h3, e3, O3, K3, _, _⟩ := O2.lit K2 [x] (by simp; omega)
      have e2' : aappend prog (hh.new 21 [.int .i32 92]) 22 22 v (.slice (some ⟨hh.size, 0, none⟩) 1 2) = some (v2, h2) := e2
      have e3' : aappend prog (h2.new 21 [.int .i32 x]) 22 22 v2 (.slice (some ⟨h2.size, 0, none⟩) 1 2) = some (v3, h3) := e3
      have IX2 := ((S.keeps K2).ix hx).1
      have LX2 := ((S.keeps K2).ix hx).2
      rw [if_pos cs] at hdt
      rw [List.append_assoc] at O3
      have O4 : OwI h.size h3 v3 (quo (l.take (i + 1))) := by rw [hdt]; exact O3
      simp only [wk, wt, wl, ↓reduceIte, Nat.reduceEqDiff, Nat.reduceAdd, Nat.zero_add, not_false_eq_true, not_true_eq_false, t0, t4, t3, IX, LX, d1, d2, d3, d4, d5, e2', IX2, LX2, e3', wi, intOf_int]
      exact ⟨⟨i + 1, v3, rfl, rfl, by omega, O4, K3⟩, by omega⟩
    have d5 := decide_eq_false c5
    by_cases c6 : x = 36
    · have cs : spe x := .inr (.inr (.inr (.inr (.inr c6))))
      have d6 := decide_eq_true c6
      obtain ⟨v2, h2, e2, O2, K2, _, _⟩ := O.lit K [92] (by simp; omega)
      obtain ⟨v3, h3, e3, O3, K3, _, _⟩ := O2.lit K2 [x] (by simp; omega)
      have e2' : aappend prog (hh.new 21 [.int .i32 92]) 22 22 v (.slice (some ⟨hh.size, 0, none⟩) 1 2) = some (v2, h2) := e2
      have e3' : aappend prog (h2.new 21 [.int .i32 x]) 22 22 v2 (.slice (some ⟨h2.size, 0, none⟩) 1 2) = some (v3, h3) := e3
      have IX2 := ((S.keeps K2).ix hx).1
      have LX2 := ((S.keeps K2).ix hx).2
      rw [if_pos cs] at hdt
      rw [List.append_assoc] at O3
      have O4 : OwI h.size h3 v3 (quo (l.take (i + 1))) := by rw [hdt]; exact O3
      simp only [wk, wt, wl, ↓reduceIte, Nat.reduceEqDiff, Nat.reduceAdd, Nat.zero_add, not_false_eq_true, not_true_eq_false, t0, t4, t3, IX, LX, d1, d2, d3, d4, d5, d6, e2', IX2, LX2, e3', wi, intOf_int]
      exact ⟨⟨i + 1, v3, rfl, rfl, by omega, O4, K3⟩, by omega⟩
    have d6 := decide_eq_false c6
    have cs : ¬ spe x := fun e => by rcases fin e with e | e | e | e | e | e <;> contradiction
    obtain ⟨v3, h3, e3, O3, K3, _, _⟩ := O.lit K [x] (by simp; omega)
    have e3' : aappend prog (hh.new 21 [.int .i32 x]) 22 22 v (.slice (some ⟨hh.size, 0, none⟩) 1 2) = some (v3, h3) := e3
    rw [if_neg cs] at hdt
    have O4 : OwI h.size h3 v3 (quo (l.take (i + 1))) := by rw [hdt]; exact O3
    simp only [wk, wt, wl, ↓reduceIte, Nat.reduceEqDiff, Nat.reduceAdd, Nat.zero_add, not_false_eq_true, not_true_eq_false, t0, t4, t3, IX, LX, d1, d2, d3, d4, d5, d6, e3', wi, intOf_int]
    exact ⟨⟨i + 1, v3, rfl, rfl, by omega, O4, K3⟩, by omega⟩
  · obtain rfl : i = l.length := by omega
    rw [List.take_length] at O
    simp only [wk, wt, wl, ↓reduceIte, Nat.reduceEqDiff, Nat.reduceAdd, Nat.zero_add, not_false_eq_true, not_true_eq_false, t3]
    exact ⟨O, K⟩
end Go.Proofs.Ytnnkcbkenofhmaa.Am
