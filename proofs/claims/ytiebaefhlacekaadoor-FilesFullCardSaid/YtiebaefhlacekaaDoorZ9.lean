/- The texts of this seat, one behind another (part 9 of 15): the frame (an abstract machine), the contracts of functions, the laws. -/
import Derived.Test.YtiebaefhlacekaaDoorZ8
import Derived.Test.YtiebaefhlacekaaDoorZ5
import Derived.Test.YtiebaefhlacekaaDoorAmRound
section
/- bytes.SplitSeq at one byte: plain, and its iterator told of what its caller's round does. -/
set_option linter.unusedSimpArgs false
set_option linter.unusedVariables false
set_option maxHeartbeats 4000000
set_option maxRecDepth 20000
namespace Go.Proofs.YtiebaefhlacekaaDoor.Am
open Go Go.RowKit Go.Proofs.Tryd
/-- The pieces between c's. -/
def splitZ : List Int → Int → List (List Int)
  | [], _ => [[]]
  | x :: l, c => if x = c then [] :: splitZ l c else match splitZ l c with | p :: t => (x :: p) :: t | [] => [[x]]
theorem idxZ_ge (c : Int) : ∀ xs : List Int, -1 ≤ idxZ xs c
  | [] => by simp [idxZ]
  | x :: l => by
    have := idxZ_ge c l
    simp only [idxZ]
    split
    · omega
    · split <;> omega
theorem idxZ_neg {c : Int} : ∀ {xs : List Int}, idxZ xs c < 0 → c ∉ xs
  | [], _ => by simp
  | x :: l, h => by
    have g := idxZ_ge c l
    simp only [idxZ] at h
    split at h
    · omega
    · rename_i hx
      have hl : idxZ l c = -1 := by
        apply Classical.byContradiction
        intro hn
        rw [if_neg hn] at h; omega
      have := idxZ_neg (c := c) (xs := l) (by omega)
      simp only [List.mem_cons, not_or]
      exact ⟨fun e => hx e.symm, this⟩
theorem splitZ_none {c : Int} : ∀ {xs : List Int}, c ∉ xs → splitZ xs c = [xs]
  | [], _ => rfl
  | x :: l, h => by
    simp only [List.mem_cons, not_or] at h
    simp only [splitZ, if_neg (fun e => h.1 (Eq.symm e)), splitZ_none h.2]
theorem splitZ_at {c : Int} : ∀ {xs : List Int} {m : Nat}, idxZ xs c = m → m < xs.length ∧ splitZ xs c = xs.take m :: splitZ (xs.drop (m + 1)) c
  | [], m, h => by simp only [idxZ] at h; omega
  | x :: l, m, h => by
    simp only [idxZ] at h
    split at h
    · rename_i hx
      have : m = 0 := by omega
      subst this
      exact ⟨by simp, by simp [splitZ, hx]⟩
    · rename_i hx
      split at h
      · omega
      · have g := idxZ_ge c l
        obtain ⟨k, hk⟩ : ∃ k, m = k + 1 := ⟨m - 1, by omega⟩
        subst hk
        obtain ⟨q1, q2⟩ := splitZ_at (c := c) (xs := l) (m := k) (by omega)
        exact ⟨by simp; omega, by simp [splitZ, hx, q2]⟩
theorem splitZ_ne {c : Int} : ∀ {xs : List Int}, splitZ xs c ≠ []
  | [] => by simp [splitZ]
  | x :: l => by
    simp only [splitZ]
    split
    · simp
    · split <;> simp
theorem splitZ_mem {c : Int} : ∀ {xs : List Int} {p : List Int}, p ∈ splitZ xs c → ∀ x, x ∈ p → x ∈ xs
  | [], p, h => by simp [splitZ] at h; subst h; simp
  | y :: l, p, h => by
    intro x hx
    simp only [splitZ] at h
    split at h
    · rcases List.mem_cons.1 h with rfl | h
      · simp at hx
      · exact List.mem_cons_of_mem _ (splitZ_mem h x hx)
    · split at h
      · rename_i q t e
        rcases List.mem_cons.1 h with rfl | h
        · rcases List.mem_cons.1 hx with rfl | hx
          · simp
          · exact List.mem_cons_of_mem _ (splitZ_mem (xs := l) (p := q) (by rw [e]; simp) x hx)
        · exact List.mem_cons_of_mem _ (splitZ_mem (xs := l) (p := p) (by rw [e]; exact List.mem_cons_of_mem _ h) x hx)
      · simp at h; subst h; simp at hx; subst hx; simp
def sumL (L : List (List Int)) : Nat := (L.map fun p => p.length + 1).sum
theorem sumL_append {A B : List (List Int)} : sumL (A ++ B) = sumL A + sumL B := by simp [sumL]
theorem sumL_split {c : Int} : ∀ {xs : List Int}, sumL (splitZ xs c) = xs.length + 1
  | [] => rfl
  | x :: l => by
    have ih := sumL_split (c := c) (xs := l)
    simp only [splitZ]
    split
    · simp only [sumL, List.map_cons, List.sum_cons, List.length_nil, List.length_cons] at ih ⊢; omega
    · split
      · rename_i p t e
        rw [e] at ih
        simp only [sumL, List.map_cons, List.sum_cons, List.length_cons] at ih ⊢; omega
      · rename_i e
        exact absurd e splitZ_ne
section
variable {P : Program} {h h' : Heap} {D : Nat → Prop} {s n : Nat} {v : Value} {cs : List Value}
/-- A part of a slice with an end to its room. -/
theorem Rd.slice3 (R : Rd P h s v n cs) {t e : TypeId} (ht : P.underlying t = some (.slice e)) (hs : asz P e = some s) {q q' : IntKind} {j m : Int} (h0 : 0 ≤ j) (h1 : j ≤ m) (h2 : m ≤ n) :
    ∃ v', aslice P h t v none (some (.int q j)) (some (.int q' m)) = some v' ∧ Rd P h s v' j.toNat (cs.take (j.toNat * s)) ∧ ∀ z, blkOf v' = some z → blkOf v = some z := by
  obtain ⟨hl, h3⟩ := R
  have hm0 : 0 ≤ m := by omega
  rcases h3 with ⟨rfl, rfl | rfl⟩ | ⟨b, o, c, k, rfl, hb, hk, hlv, ha, ho, hc⟩
  · obtain rfl : m = 0 := by omega
    obtain rfl : j = 0 := by omega
    exact ⟨.slice none 0 0, by simp [aslice, ht, hs, boundOf], by simpa using Rd.nil0, fun z e => by cases e⟩
  · obtain rfl : m = 0 := by omega
    obtain rfl : j = 0 := by omega
    exact ⟨.slice none 0 0, by simp [aslice, ht, hs, boundOf], by simpa using Rd.nil0, fun z e => by cases e⟩
  · have hjm : m ≤ ((if c = 0 then n else max n (c - 1) : Nat) : Int) := by split <;> omega
    have hij : j ≤ (m.toNat : Int) := by omega
    have hjn : j.toNat * s ≤ n * s := Nat.mul_le_mul_right _ (by omega)
    refine ⟨_, by simp only [aslice, ht, hs, hk, ha, boundOf, if_true, h0, hm0, hjm, hij, and_self, Option.isSome_some, Bool.true_eq_false, and_false, if_false]; rfl, ⟨?_, .inr ⟨b, o, _, k, by rw [Nat.zero_mul, Nat.add_zero, Nat.sub_zero], hb, hk, hlv, ha, by omega, ?_⟩⟩, fun z e => by simpa [blkOf] using e⟩
    · rw [List.length_take, hl]; omega
    · rw [← hc, List.take_take]; congr 1; omega
theorem RdI.slice3 {k : IntKind} {xs : List Int} (R : RdI P h k v xs) {t e : TypeId} (ht : P.underlying t = some (.slice e)) (hs : asz P e = some 1) {q q' : IntKind} :
    ∃ v', aslice P h t v none (some (.int q xs.length)) (some (.int q' xs.length)) = some v' ∧ RdI P h k v' xs ∧ ∀ z, blkOf v' = some z → blkOf v = some z := by
  obtain ⟨v', e1, R1, e2⟩ := Rd.slice3 R ht hs (q := q) (q' := q') (j := (xs.length : Int)) (m := (xs.length : Int)) (by omega) (Int.le_refl _) (Int.le_refl _)
  simp only [Int.toNat_natCast, Nat.mul_one] at R1
  rw [List.take_of_length_le (by simp)] at R1
  exact ⟨v', e1, R1, e2⟩
theorem Keeps.rangeH (H : Wf h) (n : Nat) (tm : Tm) (ps : Array Tmp) (asg body : Code) : Keeps h (h.rangeH n tm ps asg body) := by
  refine ⟨⟨fun b hb => H.1 b (by have : h.size + 2 ≤ b := hb; omega), H.2⟩, by show h.size ≤ h.size + 2; omega, fun _ _ _ => rfl, fun b k hb hk => ?_, fun b k _ hk => ⟨k, hk, rfl⟩, fun x hx _ => ?_⟩
  · have : h.get b = some k := hk
    rw [H.1 b hb] at this; cases this
  · show (if x = h.size + 1 then _ else h.obj x) = h.obj x
    rw [if_neg (by omega)]
theorem Ch.oput2 {b : Nat} {ao a1 : AObj} (C : Ch D (h.oput b a1) h') (hb : h.obj b = some ao) : Ch D h (h'.oput b ao) := by
  obtain ⟨c1, c2, c3, c4, c5, c6⟩ := C
  refine ⟨c1, c2, c3, c4, c5, fun x hx hn => ?_⟩
  show (if x = b then some ao else h'.obj x) = h.obj x
  by_cases e : x = b
  · subst e; rw [if_pos rfl, hb]
  · rw [if_neg e, c6 x hx hn]
    show (if x = b then some a1 else h.obj x) = h.obj x
    rw [if_neg e]
end
theorem rangeH_obj {h : Heap} {n : Nat} {tm : Tm} {ps : Array Tmp} {asg body : Code} : (h.rangeH n tm ps asg body).obj (h.size + 1) = some (.loop n tm .ready none ps asg body) := by simp [Heap.rangeH, Heap.opush, Heap.oput, Heap.more]
theorem rangeH_size {h : Heap} {n : Nat} {tm : Tm} {ps : Array Tmp} {asg body : Code} : (h.rangeH n tm ps asg body).size = h.size + 2 := rfl
theorem awpr_gen {P : Program} {n : Nat} {c : Code} {Q : Exit → Tm → Heap → Prop} {h : Heap} (p : Tm → Prop) {tm : Tm} (hp : p tm) (H : ∀ tm', p tm' → AWpR none P n c Q tm' h) : AWpR none P n c Q tm h := H tm hp
theorem W_range {P : Program} {n : Nat} {f : Operand} {ps : Array Tmp} {asg body : Code} {Q : Exit → Tm → Heap → Prop} {tm : Tm} {h : Heap} : W P n (.rangeFunc f ps asg body) Q tm h = AWpR none P n (.rangeFunc f ps asg body) Q tm h := propext Iff.rfl
theorem boxV_one {P : Program} {h : Heap} {e : TypeId} {v : Value} {m : Nat} (hs : asz P e = some m) (h1 : one v = true) : boxV P h e v = some (.pointer (some ⟨h.size, 0, none⟩), h.new e [v]) := by
  simp [boxV, hs, one_cells h1, h1]
theorem splitseq_ok {v sv : Value} {n : Int} {h : Heap} (h1 : one v = true) (h2 : one sv = true) : ACalls prog 36 #[v, sv, .int .i64 n] h
    (fun y h' => y = .func (.func 48) #[] #[pt (h.size + 1), pt h.size, pt (h.size + 2)] ∧ h' = ((h.new 23 [v]).new 23 [sv]).new 3 [.int .i64 n]) := by
  refine acalls_of_W func36 rfl (by kernel_rfl) (by kernel_rfl) (by simp [ntmps36]) ?_
  simp only [wk, wt, wl, ↓reduceIte, Nat.reduceEqDiff, Nat.reduceAdd, Nat.zero_add, not_false_eq_true, not_true_eq_false, aeff_box, boxV_one asz23 h1, boxV_one asz23 h2, boxV_one asz3 one_int, new_size]
  all_goals exact ⟨rfl, trivial⟩
theorem split_ok {v sv : Value} {h : Heap} (h1 : one v = true) (h2 : one sv = true) : ACalls prog 26 #[v, sv] h
    (fun y h' => y = .func (.func 48) #[] #[pt (h.size + 1), pt h.size, pt (h.size + 2)] ∧ h' = ((h.new 23 [v]).new 23 [sv]).new 3 [.int .i64 0]) := by
  refine acalls_of_W func26 rfl (by kernel_rfl) (by kernel_rfl) (by simp [ntmps26]) ?_
  simp only [wk, wt, wl, ↓reduceIte, Nat.reduceEqDiff, Nat.reduceAdd, Nat.zero_add, not_false_eq_true, not_true_eq_false]
  refine (splitseq_ok h1 h2).use ?_
  rintro _ h2 ⟨rfl, rfl⟩
  simp only [wk, wt, wl, ↓reduceIte, Nat.reduceEqDiff, Nat.reduceAdd, Nat.zero_add, not_false_eq_true, not_true_eq_false]
  all_goals exact ⟨rfl, trivial⟩
def lenSl : Value → Nat
  | .slice _ n _ => n
  | _ => 0
def lenAt (h : Heap) (p : Nat) : Nat := match h.get p with | some k => lenSl (k.cells.getD 0 undef) | none => 0
theorem Rd.lenOf {P : Program} {h : Heap} {s n : Nat} {v : Value} {cs : List Value} (R : Rd P h s v n cs) : lenSl v = n := by
  obtain ⟨_, h2⟩ := R
  rcases h2 with ⟨rfl, rfl | rfl⟩ | ⟨b, o, c, k, rfl, _⟩ <;> rfl
theorem Var.lenAt {h : Heap} {p : Nat} {v : Value} (V : Var h p [v]) : lenAt h p = lenSl v := by
  obtain ⟨k, h1, h2, _⟩ := V
  simp [Am.lenAt, h1, h2]
theorem splitIter_ok {h : Heap} {yb pe ps pz : Nat} {v sv : Value} {xs : List Int} {c : Int} {D : Nat → Prop} {J : List (List Int) → Heap → Prop}
    (R : RdI prog h .u8 v xs) (S : RdI prog h .u8 sv [c]) (hB : ∀ x, x ∈ xs → isB x) (hc : isB c) (hlen : xs.length ≤ 1000000) (Ve : Var h pe [sv]) (Vs : Var h ps [v]) (Vz : Var h pz [.int .i64 0])
    (hne : pe ≠ ps ∧ pz ≠ ps) (hvs : ∀ z, blkOf v = some z → z ≠ ps) (hss : ∀ z, blkOf sv = some z → z ≠ ps)
    (hD : ∀ x, D x → x ≠ ps ∧ x ≠ pe ∧ x ≠ pz ∧ blkOf v ≠ some x ∧ blkOf sv ≠ some x) (J0 : J [] h)
    (hJs : ∀ acc h1 h2, J acc h1 → Wf h1 → h.size ≤ h1.size → Ch (fun x => x = ps) h1 h2 → J acc h2)
    (hy : ∀ acc piece t pv h', Wf h' → h.size ≤ h'.size → J acc h' → splitZ xs c = acc ++ piece :: t → RdI prog h' .u8 pv piece → AYield prog yb #[pv] h' (fun y h'' => y = .bool true ∧ J (acc ++ [piece]) h'' ∧ Ch D h' h'')) :
    ACalls prog 48 #[.func (.yield yb) #[] #[], pt pe, pt ps, pt pz] h (fun _ h' => J (splitZ xs c) h' ∧ Ch (fun x => D x ∨ x = ps) h h') := by
  refine acalls_of_W' func48 rfl (by kernel_rfl) (by kernel_rfl) (by simp [ntmps48]) ?_
  intro H
  have LE := fun {hh : Heap} (V : Var hh pe [sv]) => V.load1 (P := prog) (t := 23) underlying23 rfl (i := 0)
  have LS := fun {hh : Heap} {x : Value} (V : Var hh ps [x]) => V.load1 (P := prog) (t := 23) underlying23 rfl (i := 0)
  have LZ := fun {hh : Heap} (V : Var hh pz [.int .i64 0]) => V.load1 (P := prog) (t := 3) underlying3 rfl (i := 0)
  simp only [List.getElem?_cons_zero] at LE LS LZ
  have L1 : ∀ {hh : Heap}, RdI prog hh .u8 sv [c] → abuiltin prog .len #[23] #[sv] = some (.int .i64 1) := fun S => RdI.len S underlying23
  have d10 : decide ((1 : Int) = 0) = false := rfl
  have hpe := Ve.lt H
  have hps := Vs.lt H
  have hpz := Vz.lt H
  have SD : ∀ {h1 h2 : Heap}, Ch D h1 h2 → RdI prog h1 .u8 sv [c] → RdI prog h2 .u8 sv [c] := fun C R => C.rd R fun z e d => (hD z d).2.2.2.2 e
  simp only [wk, wt, wl, ↓reduceIte, Nat.reduceEqDiff, Nat.reduceAdd, Nat.zero_add, not_false_eq_true, not_true_eq_false, pt, LE Ve, L1 S, d10]
  refine W_loop (fun tm h' => tm 0 = .func (.yield yb) #[] #[] ∧ tm 1 = pt pe ∧ tm 2 = pt ps ∧ tm 3 = pt pz ∧ Ch (fun x => D x ∨ x = ps) h h' ∧ RdI prog h' .u8 sv [c] ∧ Var h' pe [sv] ∧ Var h' pz [.int .i64 0] ∧
      ∃ (acc : List (List Int)) (cv : Value) (cur : List Int), Var h' ps [cv] ∧ RdI prog h' .u8 cv cur ∧ (∀ z, blkOf cv = some z → blkOf v = some z) ∧ (∀ x, x ∈ cur → isB x) ∧ cur.length ≤ xs.length ∧ J acc h' ∧ splitZ xs c = acc ++ splitZ cur c) (fun _ h' => lenAt h' ps)
    ⟨(by first | rfl | (simp only [wk, wt, wl, ↓reduceIte, Nat.reduceEqDiff, Nat.reduceAdd, Nat.zero_add, not_false_eq_true, not_true_eq_false]; done) | (simp only [wk, wt, wl, ↓reduceIte, Nat.reduceEqDiff, Nat.reduceAdd, Nat.zero_add, not_false_eq_true, not_true_eq_false]; rfl)), (by first | rfl | (simp only [wk, wt, wl, ↓reduceIte, Nat.reduceEqDiff, Nat.reduceAdd, Nat.zero_add, not_false_eq_true, not_true_eq_false]; done) | (simp only [wk, wt, wl, ↓reduceIte, Nat.reduceEqDiff, Nat.reduceAdd, Nat.zero_add, not_false_eq_true, not_true_eq_false]; rfl)), (by first | rfl | (simp only [wk, wt, wl, ↓reduceIte, Nat.reduceEqDiff, Nat.reduceAdd, Nat.zero_add, not_false_eq_true, not_true_eq_false]; done) | (simp only [wk, wt, wl, ↓reduceIte, Nat.reduceEqDiff, Nat.reduceAdd, Nat.zero_add, not_false_eq_true, not_true_eq_false]; rfl)), (by first | rfl | (simp only [wk, wt, wl, ↓reduceIte, Nat.reduceEqDiff, Nat.reduceAdd, Nat.zero_add, not_false_eq_true, not_true_eq_false]; done) | (simp only [wk, wt, wl, ↓reduceIte, Nat.reduceEqDiff, Nat.reduceAdd, Nat.zero_add, not_false_eq_true, not_true_eq_false]; rfl)), (Keeps.refl H).mono (fun _ e => e.elim), S, Ve, Vz, [], v, xs, Vs, R, fun z e => e, hB, Nat.le_refl _, J0, rfl⟩ ?_
  rintro tm h' ⟨t0, t1, t2, t3, C, S', Ve', Vz', acc, cv, cur, Vs', R', hcv, hcB, hcl, J', hsp⟩
  have hle := Ch.le C
  have hw := Ch.wf C
  have hmeas : lenAt h' ps = cur.length := by rw [Vs'.lenAt, R'.lenOf]
  simp only [wk, wt, wl, ↓reduceIte, Nat.reduceEqDiff, Nat.reduceAdd, Nat.zero_add, not_false_eq_true, not_true_eq_false, t0, t1, t2, t3, pt, LE Ve', LS Vs']
  refine (index_ok R' S' hcB hc).use_pure ?_
  simp only [wk, wt, wl, ↓reduceIte, Nat.reduceEqDiff, Nat.reduceAdd, Nat.zero_add, not_false_eq_true, not_true_eq_false]
  refine condK_dec (fun hd => ?_) (fun hd => ?_)
  · have hone := splitZ_none (idxZ_neg hd)
    rw [hone] at hsp
    obtain ⟨pv, e1, R1, e2⟩ := R'.slice3 underlying23 asz5 (q := .i64) (q' := .i64)
    simp only [wk, wt, wl, ↓reduceIte, Nat.reduceEqDiff, Nat.reduceAdd, Nat.zero_add, not_false_eq_true, not_true_eq_false, t0, t1, t2, t3, pt, LS Vs', RdI.len R' underlying23, e1]
    rw [callV_yield]
    refine AYield.mono (hy acc cur [] pv h' hw hle J' hsp R1) ?_
    rintro _ h2 ⟨rfl, J2, C2⟩
    simp only [wk, wt, wl, ↓reduceIte, Nat.reduceEqDiff, Nat.reduceAdd, Nat.zero_add, not_false_eq_true, not_true_eq_false]
    refine ⟨by rw [hsp]; exact J2, C.then C2 fun b e => .inr (.inl e)⟩
  · obtain ⟨m, hm⟩ : ∃ m : Nat, idxZ cur c = m := ⟨(idxZ cur c).toNat, by omega⟩
    obtain ⟨hml, hsm⟩ := splitZ_at hm
    have w0 : IntKind.i64.wrap ((m : Int) + 0) = m := by rw [IntWalk.i64_in _ (by omega)]; omega
    have w1 : IntKind.i64.wrap ((m : Int) + 1) = ((m + 1 : Nat) : Int) := by rw [IntWalk.i64_in _ (by omega)]; omega
    have SX := Rd.sliceHi R' underlying23 asz5 (q' := .i64) (j := (m : Int)) (by omega) (by omega)
    simp only [Int.toNat_natCast] at SX
    have RX := RdI.part R' (L := 0) (H := m) (by omega) (by omega)
    simp only [List.drop_zero, Nat.sub_zero] at RX
    have hxl : (cur.take m).length = m := by rw [List.length_take]; omega
    have LX := RdI.len RX underlying23
    obtain ⟨pv, e1, R1, e2⟩ := RX.slice3 underlying23 asz5 (q := .i64) (q' := .i64)
    rw [hxl] at LX e1
    simp only [wk, wt, wl, ↓reduceIte, Nat.reduceEqDiff, Nat.reduceAdd, Nat.zero_add, not_false_eq_true, not_true_eq_false, t0, t1, t2, t3, pt, LS Vs', LZ Vz', hm, w0, SX, LX, e1]
    rw [callV_yield]
    refine AYield.mono (hy acc (cur.take m) (splitZ (cur.drop (m + 1)) c) pv h' hw hle J' (by rw [hsp, hsm]) R1) ?_
    rintro _ h2 ⟨rfl, J2, C2⟩
    have hw2 := Ch.wf C2
    have CC : Ch (fun x => D x ∨ x = ps) h h2 := C.then C2 fun b e => .inr (.inl e)
    have nd : ∀ {b : Nat}, (D b → False) → ¬ D b := fun g => g
    have Vs2 := Ch.var hw C2 Vs' (fun d => (hD ps d).1 rfl)
    have Ve2 := Ch.var hw C2 Ve' (fun d => (hD pe d).2.1 rfl)
    have Vz2 := Ch.var hw C2 Vz' (fun d => (hD pz d).2.2.1 rfl)
    have R2 : RdI prog h2 .u8 cv cur := C2.rd R' fun z e d => (hD z d).2.2.2.1 (hcv z e)
    have S2 := SD C2 S'
    have SY := Rd.sliceLo R2 underlying23 asz5 (q := .i64) (i := ((m + 1 : Nat) : Int)) (by omega) (by omega)
    simp only [Int.toNat_natCast] at SY
    have RY := RdI.partLo R2 (L := m + 1) (by omega)
    have hby : blkOf (sliceV cv 1 (m + 1) cur.length) = blkOf cv := sliceV_blk
    obtain ⟨nv, hnv⟩ : ∃ nv, sliceV cv 1 (m + 1) cur.length = nv := ⟨_, rfl⟩
    rw [hnv] at SY RY hby
    obtain ⟨h3, e3, V3, C3, z3⟩ := Vs2.store1 (P := prog) (t := 23) (v := nv) (i := 0) hw2 asz23 (by simp) RY.one
    simp only [List.set_cons_zero] at V3
    have hbn : ∀ z, blkOf nv = some z → blkOf v = some z := fun z e => hcv z (by rw [← hby]; exact e)
    simp only [wk, wt, wl, ↓reduceIte, Nat.reduceEqDiff, Nat.reduceAdd, Nat.zero_add, not_false_eq_true, not_true_eq_false, t0, t1, t2, t3, pt, Bool.not_true, LS Vs2, LE Ve2, L1 S2, hm, w1, SY, e3]
    have R3 : RdI prog h3 .u8 nv (cur.drop (m + 1)) := C3.rd RY fun z e e' => hvs z (hbn z e) e'
    have hm3 : lenAt h3 ps = (cur.drop (m + 1)).length := by rw [V3.lenAt, R3.lenOf]
    refine ⟨⟨CC.then C3 fun b e => .inr (.inr e), C3.rd S2 fun z e e' => hss z e e', Ch.var hw2 C3 Ve2 hne.1, Ch.var hw2 C3 Vz2 hne.2, acc ++ [cur.take m], nv, cur.drop (m + 1), V3, R3, hbn, fun x hx => hcB x (List.mem_of_mem_drop hx), by rw [List.length_drop]; omega, hJs _ h2 h3 J2 hw2 (Ch.le CC) C3, by rw [hsp, hsm]; simp⟩, ?_⟩
    rw [hmeas, hm3, List.length_drop]; omega
end Go.Proofs.YtiebaefhlacekaaDoor.Am
end
section
/- Files: the contract of Read, by a walk: a range over what SplitSeq hands back. -/
set_option linter.unusedSimpArgs false
set_option linter.unusedVariables false
set_option maxHeartbeats 8000000
set_option maxRecDepth 20000
namespace Go.Proofs.YtiebaefhlacekaaDoor.Am
open Go Go.RowKit Go.Proofs.Tryd
/-- Rows of runes and the bytes that they are decoded of. -/
def DecAll (A W : List (List Int)) : Prop := A.length = W.length ∧ ∀ (i : Nat) (a l : List Int), A[i]? = some a → W[i]? = some l → Dec a l
theorem DecAll.add {A W : List (List Int)} {a l : List Int} (H : DecAll A W) (h : Dec a l) : DecAll (A ++ [a]) (W ++ [l]) := by
  refine ⟨by simp [H.1], fun i x y hx hy => ?_⟩
  rw [List.getElem?_append] at hx hy
  rw [H.1] at hx
  split at hx
  · rename_i hi
    rw [if_pos hi] at hy
    exact H.2 i x y (by rw [← hx]) (by rw [← hy])
  · rename_i hi
    rw [if_neg hi] at hy
    have h0 : i - W.length = 0 := by
      have := (List.getElem?_eq_some_iff.1 hx).1
      simp only [List.length_singleton] at this
      omega
    rw [h0] at hx hy
    cases hx; cases hy
    exact h
theorem DecAll.sum : ∀ {A W : List (List Int)}, DecAll A W → sumL W ≤ sumL A
  | [], [], _ => Nat.le_refl _
  | [], w :: W, h => by have := h.1; simp at this
  | a :: A, [], h => by have := h.1; simp at this
  | a :: A, w :: W, h => by
    have h0 := (h.2 0 a w rfl rfl).len
    have ih := DecAll.sum (A := A) (W := W) ⟨by simpa using h.1, fun i x y hx hy => h.2 (i + 1) x y (by simpa using hx) (by simpa using hy)⟩
    simp only [sumL, List.map_cons, List.sum_cons] at ih ⊢; omega
/-- What the rounds keep: rows that grow, and a count. -/
def JC (bo bn B : Nat) (acc : List (List Int)) (h : Heap) : Prop :=
  ∃ (ov : Value) (W : List (Value × List Int)), Var h bo [ov] ∧ Var h bn [.int .i64 ((sumL (W.map (·.2)) : Int) - 1)] ∧ Own prog B h 1 ov W.length (W.map (·.1)) ∧ (∀ z, blkOf ov = some z → B ≤ z) ∧
    (∀ p, p ∈ W → RdI prog h .i32 p.1 p.2 ∧ ∀ z, blkOf p.1 = some z → B ≤ z ∧ blkOf ov ≠ some z) ∧ DecAll acc (W.map (·.2))
def JR (yb : Nat) (ob : AObj) (bo bn B : Nat) (acc : List (List Int)) (h : Heap) : Prop := h.obj yb = some ob ∧ B ≤ h.size ∧ JC bo bn B acc h
theorem JC.ps {bo bn B ps : Nat} {acc : List (List Int)} {h h' : Heap} (J : JC bo bn B acc h) (H : Wf h) (hb : bo ≠ ps ∧ bn ≠ ps) (hp : ps < B) (C : Ch (fun x => x = ps) h h') : JC bo bn B acc h' := by
  obtain ⟨ov, W, V1, V2, O, h3, h4, h5⟩ := J
  refine ⟨ov, W, Ch.var H C V1 hb.1, Ch.var H C V2 hb.2, Ch.own C O fun z e e' => by have := h3 z e; omega, h3, fun p hp' => ?_, h5⟩
  obtain ⟨q1, q2⟩ := h4 p hp'
  exact ⟨C.rd q1 fun z e e' => by have := (q2 z e).1; omega, q2⟩
theorem range_split {n : Nat} {tm : Tm} {x : Operand} {ps : Array Tmp} {asg body : Code} {Q : Exit → Tm → Heap → Prop} {hc : Heap} {v sv : Value} {xs : List Int} {c : Int} {bo bn pe pq pz : Nat}
    (H : Wf hc) (hok : codeOk prog n (.rangeFunc x ps asg body) = true) (hps : ps.size = 1) (hx : ev tm x = .func (.func 48) #[] #[pt pe, pt pq, pt pz])
    (R : RdI prog hc .u8 v xs) (S : RdI prog hc .u8 sv [c]) (hB : ∀ x, x ∈ xs → isB x) (hcB : isB c) (hlen : xs.length ≤ 1000000) (Ve : Var hc pe [sv]) (Vs : Var hc pq [v]) (Vz : Var hc pz [.int .i64 0])
    (hne : pe ≠ pq ∧ pz ≠ pq) (hvs : ∀ z, blkOf v = some z → z ≠ pq ∧ z ≠ bo ∧ z ≠ bn) (hss : ∀ z, blkOf sv = some z → z ≠ pq ∧ z ≠ bo ∧ z ≠ bn) (hbo : bo ≠ pq ∧ bo ≠ pe ∧ bo ≠ pz) (hbn : bn ≠ pq ∧ bn ≠ pe ∧ bn ≠ pz)
    (V1 : Var hc bo [.slice none 0 0]) (V2 : Var hc bn [.int .i64 (-1)])
    (hy : ∀ acc piece t pv h', Wf h' → hc.size + 2 ≤ h'.size → JC bo bn (hc.size + 2) acc h' → h'.obj (hc.size + 1) = some (.loop n tm .ready none ps asg body) → splitZ xs c = acc ++ piece :: t → RdI prog h' .u8 pv piece →
      W prog n asg (thenK (fun tm1 h1 => h1.obj (hc.size + 1) = some (.loop n tm .ready none ps asg body) ∧ W prog n body (roundK (hc.size + 1) n tm ps asg body (fun y h'' => y = .bool true ∧ JR (hc.size + 1) (.loop n tm .ready none ps asg body) bo bn (hc.size + 2) (acc ++ [piece]) h'' ∧ Ch (fun x => x = bo ∨ x = bn ∨ hc.size + 2 ≤ x) h' h'')) tm1 (h1.oput (hc.size + 1) (.loop n tm .busy none ps asg body))) (fun _ _ _ => False)) (bindTm ps #[pv] tm) h')
    (hQ : ∀ h', JC bo bn (hc.size + 2) (splitZ xs c) h' → Ch (fun x => x = bo ∨ x = bn ∨ x = pq) hc h' → Q .normal tm h') :
    AWpR none prog n (.rangeFunc x ps asg body) Q tm hc := by
  refine range_of hok hx (by kernel_rfl) ?_
  have KR := Keeps.rangeH H n tm ps asg body
  have l1 := V1.lt H
  have l2 := V2.lt H
  have l3 := Ve.lt H
  have l4 := Vs.lt H
  have l5 := Vz.lt H
  have hall := hok
  simp only [codeOk, Bool.and_eq_true] at hall
  have J0 : JR (hc.size + 1) (.loop n tm .ready none ps asg body) bo bn (hc.size + 2) [] (hc.rangeH n tm ps asg body) :=
    ⟨rangeH_obj, by rw [rangeH_size]; omega, .slice none 0 0, [], Keeps.var H KR V1, Keeps.var H KR V2, Own.nil0, fun z e => (by cases e), fun p hp => (by cases hp), rfl, fun i a l ha => by simp at ha⟩
  have I := splitIter_ok (yb := hc.size + 1) (D := fun x => x = bo ∨ x = bn ∨ hc.size + 2 ≤ x) (J := JR (hc.size + 1) (.loop n tm .ready none ps asg body) bo bn (hc.size + 2)) (R.keeps KR) (S.keeps KR) hB hcB hlen (Keeps.var H KR Ve) (Keeps.var H KR Vs) (Keeps.var H KR Vz) hne (fun z e => (hvs z e).1) (fun z e => (hss z e).1)
    (fun x hx => by
      have a1 : blkOf v = some x → x < hc.size := fun e => (R.blk_lt e).1
      have a2 : blkOf sv = some x → x < hc.size := fun e => (S.blk_lt e).1
      rcases hx with rfl | rfl | hx
      · exact ⟨hbo.1, hbo.2.1, hbo.2.2, fun e => (hvs _ e).2.1 rfl, fun e => (hss _ e).2.1 rfl⟩
      · exact ⟨hbn.1, hbn.2.1, hbn.2.2, fun e => (hvs _ e).2.2 rfl, fun e => (hss _ e).2.2 rfl⟩
      · exact ⟨by omega, by omega, by omega, fun e => by have := a1 e; omega, fun e => by have := a2 e; omega⟩) J0
    (fun acc h1 h2 J w1 w2 C => by
      obtain ⟨q1, q2, q3⟩ := J
      rw [rangeH_size] at w2
      exact ⟨(C.obj (by omega) (by omega)).trans q1, Nat.le_trans q2 (Ch.le C), q3.ps w1 ⟨hbo.1, hbn.1⟩ (by omega) C⟩)
    (fun acc piece t pv h' w1 w2 J w3 w4 => AYield.of J.1 (by rw [hps]; rfl) (by simp only [Bool.and_eq_true]; exact ⟨⟨⟨hall.1.1.1.2, hall.1.1.2⟩, hall.1.2⟩, hall.2⟩) (hy acc piece t pv h' w1 (by rw [rangeH_size] at w2; exact w2) J.2.2 J.1 w3 w4))
  have e : (#[] ++ #[Value.func (.yield (hc.size + 1)) #[] #[]] ++ #[pt pe, pt pq, pt pz] : Array Value) = #[.func (.yield (hc.size + 1)) #[] #[], pt pe, pt pq, pt pz] := by simp
  rw [e]
  refine I.use ?_
  rintro _ h' ⟨⟨ho, hs, J⟩, C⟩
  refine ⟨.ready, none, ho, by simp, ?_⟩
  show Q .normal tm _
  have C' : Ch (fun x => x = bo ∨ x = bn ∨ x = pq) hc h' := (Ch.mono KR fun _ e => e.elim : Ch (fun x => x = bo ∨ x = bn ∨ x = pq) hc _).then C fun b e => by
    rcases e with (e | e | e) | e
    · exact .inr (.inl e)
    · exact .inr (.inr (.inl e))
    · exact .inl (by omega)
    · exact .inr (.inr (.inr e))
  refine hQ _ J ?_
  obtain ⟨c1, c2, c3, c4, c5, c6⟩ := C'
  refine ⟨c1, c2, c3, c4, c5, fun x hx hd => ?_⟩
  show (if x = hc.size + 1 then _ else h'.obj x) = hc.obj x
  rw [if_neg (by omega)]; exact c6 x hx hd
theorem bi22 {h : Heap} {x : Value} (h1 : one x = true) : abuildSlice prog h 22 1 #[(0, x)] = some (.slice (some ⟨h.size, 0, none⟩) 1 2, h.new 47 [x]) :=
  build1 underlying22 asz47 azero47 rfl h1
section
variable {h : Heap} {b r : Nat} {fv : Value} {fl : List Int} {es : List (ByteArray × Value)}
theorem fet_key {D : List (ByteArray × List Int)} (V : DV h b r fv es D) (s : ByteArray) : ∃ v e, fetV es s = .tuple #[v, errV e] ∧ e = bytE D s ∧ RdI prog h .u8 v (bytL D s) ∧ (bytL D s).length ≤ 262144 ∧ ∀ y, y ∈ bytL D s → isB y := by
  unfold fetV bytE bytL
  cases hn : nameB s with
  | false => exact ⟨_, _, rfl, rfl, Rd.nil0, by simp, by simp⟩
  | true =>
    rw [if_neg (by decide), if_neg (by decide), if_neg (by decide)]
    rcases V.get s with ⟨g1, g2⟩ | ⟨v, l, g1, g2, R, _, hB, hl⟩
    · rw [g1, g2]; exact ⟨_, _, rfl, rfl, Rd.nil0, by simp, by simp⟩
    · rw [g1, g2]; exact ⟨v, 0, rfl, rfl, R, hl, hB⟩
theorem clos_vars {h : Heap} {a sv : Value} (H : Wf h) :
    Keeps h (((h.new 23 [a]).new 23 [sv]).new 3 [.int .i64 0]) ∧ Var (((h.new 23 [a]).new 23 [sv]).new 3 [.int .i64 0]) h.size [a] ∧
    Var (((h.new 23 [a]).new 23 [sv]).new 3 [.int .i64 0]) (h.size + 1) [sv] ∧ Var (((h.new 23 [a]).new 23 [sv]).new 3 [.int .i64 0]) (h.size + 2) [.int .i64 0] ∧
    (((h.new 23 [a]).new 23 [sv]).new 3 [.int .i64 0]).size = h.size + 3 := by
  have K1 := Keeps.new H 23 [a]
  have V1 := Var.new (e := 23) H (cs := [a])
  have K2 := Keeps.new (Ch.wf K1) 23 [sv]
  have V2 := Var.new (e := 23) (Ch.wf K1) (cs := [sv])
  have K3 := Keeps.new (Ch.wf K2) 3 [.int .i64 0]
  have V3 := Var.new (e := 3) (Ch.wf K2) (cs := [.int .i64 0])
  exact ⟨(K1.trans K2).trans K3, Keeps.var (Ch.wf K2) K3 (Keeps.var (Ch.wf K1) K2 V1), Keeps.var (Ch.wf K2) K3 V2, V3, rfl⟩
/-- What Read answers. -/
def ReadQ (D : List (ByteArray × List Int)) (s : ByteArray) (h : Heap) (y : Value) (h' : Heap) : Prop :=
  Keeps h h' ∧ (bytE D s ≠ 0 ∧ y = .tuple #[.slice none 0 0, .int .i64 (numZ (bytE D s))] ∨ bytE D s = 0 ∧ ∃ W, DecAll (splitZ (trimZ (bytL D s) 10) 10) W ∧
    ((65536 < (sumL W : Int) - 1 ∧ y = .tuple #[.slice none 0 0, .int .i64 3]) ∨ ¬ 65536 < (sumL W : Int) - 1 ∧ ∃ v, y = .tuple #[v, .int .i64 0] ∧ LR h' v W))
theorem read_ok {D : List (ByteArray × List Int)} {s : ByteArray} (M : FK h b r fv fl es) (V : DV h b r fv es D) :
    ACalls prog 10 #[pt b, .string s] h (fun y h' => ReadQ D s h y h') := by
  refine acalls_of_W' func10 rfl (by kernel_rfl) (by kernel_rfl) (by simp [ntmps10]) ?_
  intro H
  obtain ⟨v, e, k1, k2, k3, k4, k5⟩ := fet_key V s
  simp only [wk, wt, wl, ↓reduceIte, Nat.reduceEqDiff, Nat.reduceAdd, Nat.zero_add, not_false_eq_true, not_true_eq_false]
  refine (fetch_ok M V).use_pure ?_
  rw [k1]
  by_cases he : e = 0
  · have hE : bytE D s = 0 := by rw [← k2]; exact he
    obtain ⟨xs, hxs⟩ : ∃ xs, bytL D s = xs := ⟨_, rfl⟩
    rw [hxs] at k3 k4 k5
    have K1 := Keeps.new H 22 [Value.slice none 0 0]
    have V1 := Var.new (e := 22) H (cs := [Value.slice none 0 0])
    have K2 := Keeps.new (Ch.wf K1) 3 [.int .i64 0]
    have V2 := Var.new (e := 3) (Ch.wf K1) (cs := [.int .i64 0])
    have V1b := Keeps.var (Ch.wf K1) K2 V1
    simp only [new_size] at V2
    obtain ⟨h3, e3, V3, C3, z3⟩ := V2.store1 (P := prog) (t := 3) (v := .int .i64 (-1)) (i := 0) (Ch.wf K2) asz3 (by simp) rfl
    simp only [List.set_cons_zero] at V3
    simp only [wk, wt, wl, ↓reduceIte, Nat.reduceEqDiff, Nat.reduceAdd, Nat.zero_add, not_false_eq_true, not_true_eq_false, he, errV0, if_nnone, if_nnoneC, new_size, e3, bi8]
    have K3 := (K1.trans K2).step C3 fun b e => by omega
    have R3 := k3.keeps K3
    have N4 := Keeps.new (Ch.wf C3) 5 [.int .u8 10]
    have S4 : RdI prog (h3.new 5 [.int .u8 10]) .u8 (.slice (some ⟨h3.size, 0, none⟩) 1 2) [10] := rdNewB (Ch.wf C3) [10]
    have h10 : isB 10 := ⟨by decide, by decide⟩
    refine (trim_ok (R3.keeps N4) S4 k5 h10 (by omega)).use ?_
    rintro tv _ ⟨RT, hbt, rfl⟩
    simp only [wk, wt, wl, ↓reduceIte, Nat.reduceEqDiff, Nat.reduceAdd, Nat.zero_add, not_false_eq_true, not_true_eq_false, bi8]
    have N5 := Keeps.new (Ch.wf N4) 5 [.int .u8 10]
    have S5 : RdI prog ((h3.new 5 [.int .u8 10]).new 5 [.int .u8 10]) .u8 (.slice (some ⟨h3.size + 1, 0, none⟩) 1 2) [10] := rdNewB (Ch.wf N4) [10]
    have K5 := (K3.trans N4).trans N5
    have RT5 := RT.keeps N5
    have V1c := Keeps.var (Ch.wf N4) N5 (Keeps.var (Ch.wf C3) N4 (Ch.var (Ch.wf K2) C3 V1b (by omega)))
    have V2c := Keeps.var (Ch.wf N4) N5 (Keeps.var (Ch.wf C3) N4 V3)
    have z5 : ((h3.new 5 [.int .u8 10]).new 5 [.int .u8 10]).size = h.size + 4 := by simp only [new_size, z3]
    have z3' : h3.size = h.size + 2 := z3
    simp only [new_size, z3'] at S5 ⊢
    generalize hh5 : (h3.new 5 [.int .u8 10]).new 5 [.int .u8 10] = h5 at *
    refine (split_ok RT5.one rfl).use ?_
    rintro _ _ ⟨rfl, rfl⟩
    obtain ⟨KC, Vs, Ve, Vz, hzc⟩ := clos_vars (a := tv) (sv := .slice (some ⟨h.size + 2 + 1, 0, none⟩) 1 2) (Ch.wf K5)
    simp only [wk, wt, wl, ↓reduceIte, Nat.reduceEqDiff, Nat.reduceAdd, Nat.zero_add, not_false_eq_true, not_true_eq_false, W_range]
    have V1d := Keeps.var (Ch.wf K5) KC V1c
    have V2d := Keeps.var (Ch.wf K5) KC V2c
    have RT6 := RT5.keeps KC
    have S6 := S5.keeps KC
    have KK := K5.trans KC
    generalize ((h5.new 23 [tv]).new 23 [.slice (some ⟨h.size + 2 + 1, 0, none⟩) 1 2]).new 3 [.int .i64 0] = hc at *
    refine awpr_gen (fun tm' => tm' 8 = pt h.size ∧ tm' 9 = pt (h.size + 1) ∧ tm' 26 = .func (.func 48) #[] #[pt (h5.size + 1), pt h5.size, pt (h5.size + 2)])
      ⟨(by first | rfl | (simp only [wk, wt, wl, ↓reduceIte, Nat.reduceEqDiff, Nat.reduceAdd, Nat.zero_add, not_false_eq_true, not_true_eq_false]; done) | (simp only [wk, wt, wl, ↓reduceIte, Nat.reduceEqDiff, Nat.reduceAdd, Nat.zero_add, not_false_eq_true, not_true_eq_false]; rfl)), (by first | rfl | (simp only [wk, wt, wl, ↓reduceIte, Nat.reduceEqDiff, Nat.reduceAdd, Nat.zero_add, not_false_eq_true, not_true_eq_false]; done) | (simp only [wk, wt, wl, ↓reduceIte, Nat.reduceEqDiff, Nat.reduceAdd, Nat.zero_add, not_false_eq_true, not_true_eq_false]; rfl)), (by first | rfl | (simp only [wk, wt, wl, ↓reduceIte, Nat.reduceEqDiff, Nat.reduceAdd, Nat.zero_add, not_false_eq_true, not_true_eq_false]; done) | (simp only [wk, wt, wl, ↓reduceIte, Nat.reduceEqDiff, Nat.reduceAdd, Nat.zero_add, not_false_eq_true, not_true_eq_false]; rfl))⟩ ?_
    rintro tm1 ⟨u8, u9, u26⟩
    have hvlt : ∀ z, blkOf tv = some z → z < h.size := fun z e => by rw [hbt] at e; exact (k3.blk_lt e).1
    refine range_split (c := 10) (bo := h.size) (bn := h.size + 1) (Ch.wf KC) (by kernel_rfl) rfl (show ev tm1 (.tmp 26) = _ from u26) RT6 S6 ?_ h10 ?_ Ve Vs Vz ⟨by omega, by omega⟩
      (fun z e => by have := hvlt z e; exact ⟨by omega, by omega, by omega⟩) (fun z e => by have := blk_at e; exact ⟨by omega, by omega, by omega⟩) ⟨by omega, by omega, by omega⟩ ⟨by omega, by omega, by omega⟩ V1d V2d ?_ ?_
    · intro x hx
      unfold trimZ at hx
      split at hx
      · exact k5 x (List.mem_of_mem_take hx)
      · exact k5 x hx
    · unfold trimZ
      split
      · rw [List.length_take]; omega
      · omega
    · intro acc piece t pv h' w1 w2 J w5 w6 RP
      have hpl : piece.length ≤ 1000000 := by
        have e1 := sumL_split (c := 10) (xs := trimZ xs 10)
        rw [w6, sumL_append] at e1
        have e2 : (trimZ xs 10).length ≤ 262144 := by
          unfold trimZ
          split
          · rw [List.length_take]; omega
          · omega
        simp only [sumL, List.map_cons, List.sum_cons] at e1
        omega
      have hsum : sumL acc + piece.length + 1 ≤ 300000 := by
        have e1 := sumL_split (c := 10) (xs := trimZ xs 10)
        rw [w6, sumL_append] at e1
        have e2 : (trimZ xs 10).length ≤ 262144 := by
          unfold trimZ
          split
          · rw [List.length_take]; omega
          · omega
        simp only [sumL, List.map_cons, List.sum_cons] at e1 ⊢
        omega
      have hpB : ∀ x, x ∈ piece → isB x := fun x hx => by
        have := splitZ_mem (c := 10) (xs := trimZ xs 10) (p := piece) (by rw [w6]; simp) x hx
        unfold trimZ at this
        split at this
        · exact k5 x (List.mem_of_mem_take this)
        · exact k5 x this
      simp only [wk, wt, wl, ↓reduceIte, Nat.reduceEqDiff, Nat.reduceAdd, Nat.zero_add, not_false_eq_true, not_true_eq_false, bind1]
      refine ⟨w5, ?_⟩
      generalize hBe : Heap.oput h' _ _ = hB
      obtain ⟨ov, W, J1, J2, J3, J4, J5, J6⟩ := J
      have WB : Wf hB := by rw [← hBe]; exact w1
      have zB : hB.size = h'.size := by rw [← hBe]; rfl
      have VB : Var hB h.size [ov] := by rw [← hBe]; exact J1
      have NB : Var hB (h.size + 1) [.int .i64 ((sumL (W.map (·.2)) : Int) - 1)] := by rw [← hBe]; exact J2
      have OB : Own prog (hc.size + 2) hB 1 ov W.length (W.map (·.1)) := by rw [← hBe]; exact J3
      have RB : ∀ p, p ∈ W → RdI prog hB .i32 p.1 p.2 ∧ ∀ z, blkOf p.1 = some z → hc.size + 2 ≤ z ∧ blkOf ov ≠ some z := by rw [← hBe]; exact J5
      have PB : RdI prog hB .u8 pv piece := by rw [← hBe]; exact RP
      have hsW := J6.sum
      refine (decode_ok PB hpB (by omega)).use ?_
      rintro xv h6 ⟨l, hdec, Ox, hxn, K6⟩
      have hll := hdec.len
      have V6 := Keeps.var WB K6 VB
      have N6 := Keeps.var WB K6 NB
      have O6 := OB.keeps K6
      have hle6 := Ch.le K6
      have LO := fun {hh : Heap} {x : Value} (V : Var hh h.size [x]) => V.load1 (P := prog) (t := 22) underlying22 rfl (i := 0)
      have LN := fun {hh : Heap} {x : Value} (V : Var hh (h.size + 1) [x]) => V.load1 (P := prog) (t := 3) underlying3 rfl (i := 0)
      simp only [List.getElem?_cons_zero] at LO LN
      have hWl : W.length ≤ 300000 := by
        have g := J6.1
        rw [List.length_map] at g
        have : acc.length ≤ sumL acc := by
          have : ∀ A : List (List Int), A.length ≤ sumL A := fun A => by
            induction A with
            | nil => simp
            | cons a A ih => simp only [sumL, List.map_cons, List.sum_cons, List.length_cons] at ih ⊢; omega
          exact this acc
        omega
      obtain ⟨v7, h7, e7, O7, C7, R7, ev7, _⟩ := O6.append1 (P := prog) (Ch.wf K6) (by omega) underlying22 elem47 fits47 (by decide) (by decide) (xs := [xv]) rfl (by omega)
      have V7 := Ch.var (Ch.wf K6) C7 V6 fun e => by have := e.2; omega
      have N7 := Ch.var (Ch.wf K6) C7 N6 fun e => by have := e.2; omega
      have hle7 := Ch.le C7
      obtain ⟨h8, e8, V8, C8, z8⟩ := V7.store1 (P := prog) (t := 22) (v := v7) (i := 0) (Ch.wf C7) asz22 (by simp) (by rw [ev7]; rfl)
      simp only [List.set_cons_zero] at V8
      have N8 := Ch.var (Ch.wf C7) C8 N7 (by omega)
      have Lx : abuiltin prog .len #[47] #[xv] = some (.int .i64 l.length) := Rd.len Ox.1 underlying47
      have wa : IntKind.i64.wrap ((l.length : Int) + 1) = (l.length : Int) + 1 := IntWalk.i64_in _ (by omega)
      have wb : IntKind.i64.wrap ((sumL (W.map (·.2)) : Int) - 1 + ((l.length : Int) + 1)) = (sumL (W.map (·.2)) : Int) - 1 + ((l.length : Int) + 1) := IntWalk.i64_in _ (by omega)
      obtain ⟨h9, e9, N9, C9, z9⟩ := N8.store1 (P := prog) (t := 3) (v := .int .i64 ((sumL (W.map (·.2)) : Int) - 1 + ((l.length : Int) + 1))) (i := 0) (Ch.wf C8) asz3 (by simp) rfl
      simp only [List.set_cons_zero] at N9
      have V9 := Ch.var (Ch.wf C8) C9 V8 (by omega)
      simp only [wk, wt, wl, ↓reduceIte, Nat.reduceEqDiff, Nat.reduceAdd, Nat.zero_add, not_false_eq_true, not_true_eq_false, u8, u9, pt, LO V6, bi22 Ox.1.one, e7, e8, LN N8, Lx, wa, wb, e9]
      have nov : ∀ z, blkOf ov = some z → z < hB.size := fun z e => (OB.1.blk_lt e).1
      have C69 : Ch (fun x => x = h.size ∨ x = h.size + 1 ∨ hc.size + 2 ≤ x) hB h9 := (((K6.mono (D' := fun x => x = h.size ∨ x = h.size + 1 ∨ hc.size + 2 ≤ x) fun _ e => e.elim).then C7 fun x e => .inr (.inr (.inr e.2))).then C8 fun x e => .inr (.inl e)).then C9 fun x e => .inr (.inr (.inl e))
      have hob9 := C69.obj (b := hc.size + 1) (by omega) fun e => by omega
      rw [← hBe] at hob9
      have O9 := Ch.own C9 (Ch.own C8 O7 fun z e e' => by rw [ev7] at e; have := blk_at e; omega) fun z e e' => by rw [ev7] at e; have := blk_at e; omega
      have N9' : Var h9 (h.size + 1) [.int .i64 ((sumL ((W ++ [(xv, l)]).map (·.2)) : Int) - 1)] := by
        have : (sumL ((W ++ [(xv, l)]).map (·.2)) : Int) - 1 = (sumL (W.map (·.2)) : Int) - 1 + ((l.length : Int) + 1) := by
          rw [List.map_append, sumL_append]; simp only [sumL, List.map_cons, List.map_nil, List.sum_cons, List.sum_nil]; omega
        rw [this]; exact N9
      have R9 : ∀ p, p ∈ W ++ [(xv, l)] → RdI prog h9 .i32 p.1 p.2 ∧ ∀ z, blkOf p.1 = some z → hc.size + 2 ≤ z ∧ blkOf v7 ≠ some z := fun p hp => by
        have up : ∀ {q : Value} {k : List Int}, RdI prog h6 .i32 q k → (∀ z, blkOf q = some z → hc.size + 2 ≤ z ∧ blkOf ov ≠ some z) → RdI prog h9 .i32 q k := fun R hz =>
          C9.rd (C8.rd (C7.rd R fun z e d => (hz z e).2 d.1) fun z e d => by have := (hz z e).1; omega) fun z e d => by have := (hz z e).1; omega
        rcases List.mem_append.1 hp with hp | hp
        · obtain ⟨q1, q2⟩ := RB p hp
          refine ⟨up (q1.keeps K6) q2, fun z e => ⟨(q2 z e).1, fun e' => ?_⟩⟩
          rw [ev7] at e'
          have := blk_at e'
          have := (q1.blk_lt e).1
          omega
        · simp only [List.mem_singleton] at hp
          subst hp
          have hz : ∀ z, blkOf xv = some z → hc.size + 2 ≤ z ∧ blkOf ov ≠ some z := fun z e => by
            have g := hxn z e
            exact ⟨by omega, fun e' => by have := nov z e'; omega⟩
          refine ⟨up Ox.1 hz, fun z e => ⟨(hz z e).1, fun e' => ?_⟩⟩
          rw [ev7] at e'
          have := blk_at e'
          have := (Ox.1.blk_lt e).1
          omega
      simp only [roundK]
      refine ⟨by rw [hob9]; simp [Heap.oput], trivial, ⟨by simp [Heap.oput], by show _ ≤ h9.size; omega, v7, W ++ [(xv, l)], V9, N9', ?_, fun z e => by rw [ev7] at e; have := blk_at e; omega, R9, ?_⟩, Ch.oput2 (by rw [hBe]; exact C69) w5⟩
      · have e1 : (W ++ [(xv, l)]).length = W.length + 1 := by simp
        have e2 : (W ++ [(xv, l)]).map (·.1) = W.map (·.1) ++ [xv] := by simp
        rw [e1, e2]; exact O9
      · have e2 : (W ++ [(xv, l)]).map (·.2) = W.map (·.2) ++ [l] := by simp
        rw [e2]; exact J6.add hdec
    · intro h6 J6 C6
      obtain ⟨ov, W, J1, J2, J3, J4, J5, J6⟩ := J6
      have LO := J1.load1 (P := prog) (t := 22) underlying22 rfl (i := 0)
      have LN := J2.load1 (P := prog) (t := 3) underlying3 rfl (i := 0)
      simp only [List.getElem?_cons_zero] at LO LN
      have KF : Keeps h h6 := KK.step C6 fun b e => by omega
      have hL : LR h6 ov (W.map (·.2)) := by
        refine ⟨W.map (·.1), by rw [List.length_map]; exact J3.1, fun i hi => ?_⟩
        rw [List.length_map] at hi
        have hp := J5 W[i] (List.getElem_mem hi)
        have e1 : (W.map (·.1)).getD i undef = W[i].1 := by simp [List.getD, hi]
        have e2 : (W.map (·.2)).getD i [] = W[i].2 := by simp [List.getD, hi]
        rw [e1, e2]
        exact ⟨hp.1, by simp [hi]⟩
      by_cases c1 : (65536 : Int) < (sumL (W.map (·.2)) : Int) - 1
      · simp only [wk, wt, wl, ↓reduceIte, Nat.reduceEqDiff, Nat.reduceAdd, Nat.zero_add, not_false_eq_true, not_true_eq_false, u8, u9, pt, LN, decide_eq_true c1]
        exact ⟨KF, .inr ⟨hE, W.map (·.2), by rw [hxs]; exact J6, .inl ⟨c1, rfl⟩⟩⟩
      · simp only [wk, wt, wl, ↓reduceIte, Nat.reduceEqDiff, Nat.reduceAdd, Nat.zero_add, not_false_eq_true, not_true_eq_false, u8, u9, pt, LN, LO, decide_eq_false c1]
        exact ⟨KF, .inr ⟨hE, W.map (·.2), by rw [hxs]; exact J6, .inr ⟨c1, ov, rfl, hL⟩⟩⟩
  · have hE : bytE D s ≠ 0 := by rw [← k2]; exact he
    have e0 := errVn he
    simp only [wk, wt, wl, ↓reduceIte, Nat.reduceEqDiff, Nat.reduceAdd, Nat.zero_add, not_false_eq_true, not_true_eq_false, e0, if_nsome]
    rw [← e0]
    refine number_ok.use_pure ?_
    simp only [wk, wt, wl, ↓reduceIte, Nat.reduceEqDiff, Nat.reduceAdd, Nat.zero_add, not_false_eq_true, not_true_eq_false]
    all_goals exact ⟨Keeps.refl H, .inl ⟨hE, by rw [k2]⟩⟩
end
end Go.Proofs.YtiebaefhlacekaaDoor.Am
end
section
/- Files: contracts of Read and Names at files that are none, of the document's Runes, Same, Of, of Small and line, by walks. -/
set_option linter.unusedSimpArgs false
set_option linter.unusedVariables false
set_option maxHeartbeats 8000000
set_option maxRecDepth 20000
namespace Go.Proofs.YtiebaefhlacekaaDoor.Am
open Go Go.RowKit Go.Proofs.Tryd
section
variable {h : Heap}
theorem read0 {s : ByteArray} : ACalls prog 10 #[.pointer none, .string s] h (fun y h' => y = .tuple #[.slice none 0 0, .int .i64 1] ∧ h' = h) := by
  refine acalls_of_W func10 rfl (by kernel_rfl) (by kernel_rfl) (by simp [ntmps10]) ?_
  simp only [wk, wt, wl, ↓reduceIte, Nat.reduceEqDiff, Nat.reduceAdd, Nat.zero_add, not_false_eq_true, not_true_eq_false]
  refine fetch0.use_pure ?_
  simp only [wk, wt, wl, ↓reduceIte, Nat.reduceEqDiff, Nat.reduceAdd, Nat.zero_add, not_false_eq_true, not_true_eq_false, errV1, if_nsome]
  rw [← errV1]
  refine number_ok.use_pure ?_
  simp only [wk, wt, wl, ↓reduceIte, Nat.reduceEqDiff, Nat.reduceAdd, Nat.zero_add, not_false_eq_true, not_true_eq_false]
  all_goals exact ⟨rfl, trivial⟩
theorem names0 : ACalls prog 14 #[.pointer none] h (fun y h' => y = .slice none 0 0 ∧ h' = h) := by
  refine acalls_of_W func14 rfl (by kernel_rfl) (by kernel_rfl) (by simp [ntmps14]) ?_
  simp only [wk, wt, wl, ↓reduceIte, Nat.reduceEqDiff, Nat.reduceAdd, Nat.zero_add, not_false_eq_true, not_true_eq_false, ptr_none (P := prog) underlying26]
  all_goals exact ⟨rfl, trivial⟩
/-- Lines' lengths together. -/
def lenS (L : List (List Int)) : Nat := (L.map List.length).sum
theorem lenS_next {L : List (List Int)} {i : Nat} (hi : i < L.length) : lenS (L.take (i + 1)) = lenS (L.take i) + (L.getD i []).length := by
  rw [List.take_succ_eq_append_getElem hi, List.getD_eq_getElem?_getD, List.getElem?_eq_getElem hi]
  simp only [lenS, List.map_append, List.sum_append, List.map_cons, List.map_nil, List.sum_cons, List.sum_nil, Option.getD_some, Nat.add_zero]
theorem lenS_at {L : List (List Int)} {i : Nat} (hi : i < L.length) : lenS (L.take i) + (L.getD i []).length ≤ lenS L := by
  have e : lenS L = lenS (L.take (i + 1)) + lenS (L.drop (i + 1)) := by
    unfold lenS; rw [← List.sum_append, ← List.map_append, List.take_append_drop]
  rw [e, lenS_next hi]; omega
theorem encLs_len (L : List (List Int)) : (encLs L).length ≤ 4 * lenS L + L.length := by
  induction L with
  | nil => simp [encLs]
  | cons l L ih =>
    have := encL_len l
    simp only [encLs, lenS, List.flatMap_cons, List.length_append, List.length_cons, List.map_cons, List.sum_cons, List.length_nil] at ih ⊢; omega
theorem encLs_ge (L : List (List Int)) : lenS L + L.length ≤ (encLs L).length := by
  induction L with
  | nil => simp [encLs, lenS]
  | cons l L ih =>
    have := encL_ge l
    simp only [encLs, lenS, List.flatMap_cons, List.length_append, List.length_cons, List.map_cons, List.sum_cons, List.length_nil] at ih ⊢; omega
def runesN (L : List (List Int)) : Int := if (L.length : Int) - 1 + lenS L < 0 then 0 else (L.length : Int) - 1 + lenS L
theorem refRunes_ok {lv : Value} {L : List (List Int)} (hL : LR h lv L) (hb : L.length ≤ 1000000000000 ∧ lenS L ≤ 1000000000000) :
    ACalls prog 19 #[lv] h (fun y h' => y = .int .i64 (runesN L) ∧ h' = h) := by
  refine acalls_of_W func19 rfl (by kernel_rfl) (by kernel_rfl) (by simp [ntmps19]) ?_
  obtain ⟨vs, hR, hE⟩ := hL
  have w0 : IntKind.i64.wrap ((L.length : Int) - 1) = (L.length : Int) - 1 := IntWalk.i64_in _ (by omega)
  simp only [wk, wt, wl, ↓reduceIte, Nat.reduceEqDiff, Nat.reduceAdd, Nat.zero_add, not_false_eq_true, not_true_eq_false, hR.len underlying22, w0]
  refine W_loop (fun tm h' => h' = h ∧ tm 0 = lv ∧ ∃ (i : Nat), tm 4 = .int .i64 i ∧ i ≤ L.length ∧ tm 3 = .int .i64 ((L.length : Int) - 1 + lenS (L.take i))) (fun tm _ => (L.length - intOf (tm 4)).toNat)
    ⟨rfl, (by first | rfl | (simp only [wk, wt, wl, ↓reduceIte, Nat.reduceEqDiff, Nat.reduceAdd, Nat.zero_add, not_false_eq_true, not_true_eq_false]; done) | (simp only [wk, wt, wl, ↓reduceIte, Nat.reduceEqDiff, Nat.reduceAdd, Nat.zero_add, not_false_eq_true, not_true_eq_false]; rfl)), 0, (by first | rfl | (simp only [wk, wt, wl, ↓reduceIte, Nat.reduceEqDiff, Nat.reduceAdd, Nat.zero_add, not_false_eq_true, not_true_eq_false]; done) | (simp only [wk, wt, wl, ↓reduceIte, Nat.reduceEqDiff, Nat.reduceAdd, Nat.zero_add, not_false_eq_true, not_true_eq_false]; rfl)), by omega, by simp only [wk, wt, wl, ↓reduceIte, Nat.reduceEqDiff, Nat.reduceAdd, Nat.zero_add, not_false_eq_true, not_true_eq_false, List.take_zero]; simp [lenS]⟩ ?_
  rintro tm h' ⟨rfl, t0, i, t4, hi, t3⟩
  simp only [wk, wt, wl, ↓reduceIte, Nat.reduceEqDiff, Nat.reduceAdd, Nat.zero_add, not_false_eq_true, not_true_eq_false, t0, t4, t3, hR.len underlying22]
  refine condK_dec (fun hd => ?_) (fun hd => ?_)
  · have hi1 : i < L.length := by omega
    obtain ⟨hEi, hvi⟩ := hE i hi1
    have hat := lenS_at hi1
    have w1 : IntKind.i64.wrap ((L.length : Int) - 1 + lenS (L.take i) + (L.getD i []).length) = (L.length : Int) - 1 + lenS (L.take i) + (L.getD i []).length := IntWalk.i64_in _ (by omega)
    simp (disch := omega) only [wk, wt, wl, ↓reduceIte, Nat.reduceEqDiff, Nat.reduceAdd, Nat.zero_add, not_false_eq_true, not_true_eq_false, t0, t4, t3, hR.index underlying22 asz47 (q := .i64) (i := (i : Int)), Int.toNat_natCast, hR.at0 (t := 47) underlying47 rfl hi1 (by decide), Nat.mul_one, hvi, hEi.len underlying47, w1, IntWalk.i64_in, intOf_int]
    refine ⟨⟨i + 1, by simp, by omega, ?_⟩, by omega⟩
    rw [lenS_next hi1]
    congr 1; omega
  · have he : L.take i = L := List.take_of_length_le (by omega)
    rw [he] at t3
    by_cases c : (L.length : Int) - 1 + lenS L < 0
    · have hc : runesN L = 0 := by unfold runesN; rw [if_pos c]
      have hm : abuiltin prog .max #[3, 3] #[.int .i64 ((L.length : Int) - 1 + lenS L), .int .i64 0] = some (.int .i64 0) := by
        simp [abuiltin, amm]; omega
      simp only [wk, wt, wl, ↓reduceIte, Nat.reduceEqDiff, Nat.reduceAdd, Nat.zero_add, not_false_eq_true, not_true_eq_false, t3, hm]
      all_goals (rw [hc]; exact ⟨rfl, trivial⟩)
    · have hc : runesN L = (L.length : Int) - 1 + lenS L := by unfold runesN; rw [if_neg c]
      have hm : abuiltin prog .max #[3, 3] #[.int .i64 ((L.length : Int) - 1 + lenS L), .int .i64 0] = some (.int .i64 ((L.length : Int) - 1 + lenS L)) := by
        simp [abuiltin, amm]; omega
      simp only [wk, wt, wl, ↓reduceIte, Nat.reduceEqDiff, Nat.reduceAdd, Nat.zero_add, not_false_eq_true, not_true_eq_false, t3, hm]
      all_goals (rw [hc]; exact ⟨rfl, trivial⟩)
def smallB (L : List (List Int)) : Bool := decide (L.length ≤ 300 ∧ runesN L ≤ 3000)
theorem small_ok {lv : Value} {L : List (List Int)} (hL : LR h lv L) (hb : L.length ≤ 1000000000000 ∧ lenS L ≤ 1000000000000) :
    ACalls prog 17 #[lv] h (fun y h' => y = .bool (smallB L) ∧ h' = h) := by
  refine acalls_of_W func17 rfl (by kernel_rfl) (by kernel_rfl) (by simp [ntmps17]) ?_
  have hR := hL
  obtain ⟨vs, hR, hE⟩ := hR
  by_cases c1 : (L.length : Int) ≤ 300
  · simp only [wk, wt, wl, ↓reduceIte, Nat.reduceEqDiff, Nat.reduceAdd, Nat.zero_add, not_false_eq_true, not_true_eq_false, hR.len underlying22, decide_eq_true c1]
    refine (refRunes_ok hL hb).use_pure ?_
    have hs : smallB L = decide (runesN L ≤ 3000) := by
      unfold smallB
      have : L.length ≤ 300 := by omega
      simp [this]
    simp only [wk, wt, wl, ↓reduceIte, Nat.reduceEqDiff, Nat.reduceAdd, Nat.zero_add, not_false_eq_true, not_true_eq_false]
    all_goals (rw [hs]; exact ⟨rfl, trivial⟩)
  · have hs : smallB L = false := by unfold smallB; exact decide_eq_false fun g => c1 (by have := g.1; omega)
    rw [hs]
    simp only [wk, wt, wl, ↓reduceIte, Nat.reduceEqDiff, Nat.reduceAdd, Nat.zero_add, not_false_eq_true, not_true_eq_false, hR.len underlying22, decide_eq_false c1]
    all_goals exact ⟨rfl, trivial⟩
theorem refSame_ok {a b : Value} {A B : List (List Int)} (ha : LR h a A) (hb : LR h b B) (hl : ∀ i, (A.getD i []).length < 9223372036854775807) (hal : A.length ≤ 1000000000000) :
    ACalls prog 21 #[a, b] h (fun y h' => y = .bool (decide (A = B)) ∧ h' = h) := by
  refine acalls_of_W func21 rfl (by kernel_rfl) (by kernel_rfl) (by simp [ntmps21]) ?_
  obtain ⟨vs, hR, hE⟩ := ha
  obtain ⟨us, hS, hF⟩ := hb
  simp only [wk, wt, wl, ↓reduceIte, Nat.reduceEqDiff, Nat.reduceAdd, Nat.zero_add, not_false_eq_true, not_true_eq_false, hR.len underlying22, hS.len underlying22]
  refine condK_dec (fun hc => ?_) (fun hc => ?_)
  · simp only [wk, wt, wl, ↓reduceIte, Nat.reduceEqDiff, Nat.reduceAdd, Nat.zero_add, not_false_eq_true, not_true_eq_false]
    refine ⟨?_, trivial⟩
    have : ¬ A = B := fun e => hc (by rw [e])
    rw [decide_eq_false this]
  · have hAB : A.length = B.length := by omega
    simp only [wk, wt, wl, ↓reduceIte, Nat.reduceEqDiff, Nat.reduceAdd, Nat.zero_add, not_false_eq_true, not_true_eq_false]
    refine W_loop (fun tm h' => h' = h ∧ tm 0 = a ∧ tm 1 = b ∧ ∃ (i : Nat), tm 5 = .int .i64 i ∧ i ≤ A.length ∧ A.take i = B.take i) (fun tm _ => (A.length - intOf (tm 5)).toNat)
      ⟨rfl, (by first | rfl | (simp only [wk, wt, wl, ↓reduceIte, Nat.reduceEqDiff, Nat.reduceAdd, Nat.zero_add, not_false_eq_true, not_true_eq_false]; done) | (simp only [wk, wt, wl, ↓reduceIte, Nat.reduceEqDiff, Nat.reduceAdd, Nat.zero_add, not_false_eq_true, not_true_eq_false]; rfl)), (by first | rfl | (simp only [wk, wt, wl, ↓reduceIte, Nat.reduceEqDiff, Nat.reduceAdd, Nat.zero_add, not_false_eq_true, not_true_eq_false]; done) | (simp only [wk, wt, wl, ↓reduceIte, Nat.reduceEqDiff, Nat.reduceAdd, Nat.zero_add, not_false_eq_true, not_true_eq_false]; rfl)), 0, (by first | rfl | (simp only [wk, wt, wl, ↓reduceIte, Nat.reduceEqDiff, Nat.reduceAdd, Nat.zero_add, not_false_eq_true, not_true_eq_false]; done) | (simp only [wk, wt, wl, ↓reduceIte, Nat.reduceEqDiff, Nat.reduceAdd, Nat.zero_add, not_false_eq_true, not_true_eq_false]; rfl)), by omega, by simp⟩ ?_
    rintro tm h' ⟨rfl, t0, t1, i, t5, hi, hp⟩
    simp only [wk, wt, wl, ↓reduceIte, Nat.reduceEqDiff, Nat.reduceAdd, Nat.zero_add, not_false_eq_true, not_true_eq_false, t0, t5, hR.len underlying22]
    refine condK_dec (fun hd => ?_) (fun hd => ?_)
    · have hi1 : i < A.length := by omega
      have hi2 : i < B.length := by omega
      obtain ⟨hEi, hvi⟩ := hE i hi1
      obtain ⟨hFi, hui⟩ := hF i hi2
      have IA := hR.index underlying22 asz47 (q := .i64) (i := (i : Int)) (by omega) (by omega)
      have IB := hS.index underlying22 asz47 (q := .i64) (i := (i : Int)) (by omega) (by omega)
      have LA := hR.at0 (t := 47) underlying47 rfl hi1 (by decide)
      have LB := hS.at0 (t := 47) underlying47 rfl hi2 (by decide)
      simp only [Int.toNat_natCast] at IA IB
      rw [Nat.mul_one, hvi] at LA
      rw [Nat.mul_one, hui] at LB
      have hst : A.take (i + 1) = B.take (i + 1) ↔ A.getD i [] = B.getD i [] := by
        have eA : A.getD i [] = A[i] := by simp [List.getD, hi1]
        have eB : B.getD i [] = B[i] := by simp [List.getD, hi2]
        rw [eA, eB, List.take_succ_eq_append_getElem hi1, List.take_succ_eq_append_getElem hi2, hp]
        exact ⟨fun g => by have := List.append_cancel_left g; simpa using this, fun g => by rw [g]⟩
      have rr : Reads h' h' := fun b k hk => ⟨k, hk, rfl, rfl, id⟩
      refine adraw_order [(0, false), (1, false), (2, false), (3, false), (4, false), (5, false), (6, false), (7, false), (8, true), (9, false)] mixed (by kernel_rfl) (by kernel_rfl) (by kernel_rfl) (by with_reducible repeat (first | exact PF_retK | refine PF_thenK ?_ | refine PF_blockK ?_)) ?_
      simp only [wk, wt, wl, ↓reduceIte, Nat.reduceEqDiff, Nat.reduceAdd, Nat.zero_add, not_false_eq_true, not_true_eq_false, dK_t, t0, t1, t5, IA, LA, IB, LB]
      refine (runes_ok hEi hFi (hl i)).use_pure ?_
      by_cases hq : A.getD i [] = B.getD i []
      · simp only [wk, wt, wl, ↓reduceIte, Nat.reduceEqDiff, Nat.reduceAdd, Nat.zero_add, not_false_eq_true, not_true_eq_false, dK_t, decide_eq_true hq, Bool.not_true]
        refine ⟨rr, ?_⟩
        simp (disch := omega) only [wk, wt, wl, ↓reduceIte, Nat.reduceEqDiff, Nat.reduceAdd, Nat.zero_add, not_false_eq_true, not_true_eq_false, t0, t1, t5, IntWalk.i64_in, intOf_int]
        all_goals exact ⟨⟨i + 1, by simp, by omega, hst.2 hq⟩, by omega⟩
      · simp only [wk, wt, wl, ↓reduceIte, Nat.reduceEqDiff, Nat.reduceAdd, Nat.zero_add, not_false_eq_true, not_true_eq_false, dK_t, decide_eq_false hq, Bool.not_false]
        refine ⟨rr, ?_, trivial⟩
        have : ¬ A = B := fun e => hq (by rw [e])
        rw [decide_eq_false this]
    · simp only [wk, wt, wl, ↓reduceIte, Nat.reduceEqDiff, Nat.reduceAdd, Nat.zero_add, not_false_eq_true, not_true_eq_false]
      refine ⟨?_, trivial⟩
      have e1 : A.take i = A := List.take_of_length_le (by omega)
      have e2 : B.take i = B := List.take_of_length_le (by omega)
      rw [e1, e2] at hp
      rw [decide_eq_true hp]
end
end Go.Proofs.YtiebaefhlacekaaDoor.Am
end
section
/- Files: the contracts told of what a law holds (SF); awake. -/
set_option linter.unusedSimpArgs false
set_option linter.unusedVariables false
set_option maxHeartbeats 8000000
set_option maxRecDepth 20000
namespace Go.Proofs.YtiebaefhlacekaaDoor.Am
open Go Go.RowKit Go.Proofs.Tryd
/-- What lies apart stays, and is read as it was. -/
def Stays (h : Heap) (b r : Nat) (fv : Value) (h' : Heap) (fv' : Value) : Prop := ∀ v, AP h b r fv v → AP h' b r fv' v ∧ ∀ k l, RdI prog h k v l → RdI prog h' k v l
section
variable {h0 h : Heap} {b r : Nat} {fv : Value} {fl : List Int} {es : List (ByteArray × Value)} {D : List (ByteArray × List Int)}
theorem SF.write_ok (S : SF h0 h b r fv fl es D) {s : ByteArray} {lv : Value} {L : List (List Int)} (hL : LR h lv L) (hr : ∀ i j, isR ((L.getD i []).getD j 0)) (hn : (encLs L).length ≤ 100000000) (hll : L.length ≤ 100000000) (hfl : fl.length ≤ 1000000) :
    ACalls prog 9 #[pt b, .string s, lv] h (fun y h' => y = .tuple #[.int .i64 (stoN D fl s (encLs L).length), .int .i64 (numZ (stoE D fl s (encLs L).length))] ∧
      ∃ fv' es', SF h0 h' b r fv' (stoF D fl s (encLs L).length) es' (stoD D fl s (encLs L)) ∧ Stays h b r fv h' fv') := by
  refine ACalls.mono (Am.write_ok S.m S.d hL hr hn hll hfl) ?_
  rintro y h' ⟨e, fv', es', M, V, C, hz⟩
  exact ⟨e, fv', es', S.step M V C hz, fun v A => ⟨A.step S.m S.wf C hz, fun k l R => A.reads R C⟩⟩
theorem SF.fails_ok (S : SF h0 h b r fv fl es D) {n : Int} (hl : fl.length ≤ 1000000) :
    ACalls prog 8 #[pt b, .int .i64 n] h (fun y h' => y = .tuple #[] ∧ ∃ fv', SF h0 h' b r fv' (fl ++ [n]) es D ∧ Stays h b r fv h' fv') := by
  refine ACalls.mono (Am.fails_ok S.m hl) ?_
  rintro y h' ⟨e, fv', M, C, hz⟩
  exact ⟨e, fv', S.step M (S.d.step S.m S.wf C hz) C hz, fun v A => ⟨A.step S.m S.wf C hz, fun k l R => A.reads R C⟩⟩
theorem SF.put_ok (S : SF h0 h b r fv fl es D) {s : ByteArray} {v : Value} {l : List Int} (R : RdI prog h .u8 v l) (hB : ∀ y, y ∈ l → isB y) :
    ACalls prog 12 #[pt b, .string s, v] h (fun y h' => y = .int .i64 (numZ (roomZ D s l.length)) ∧ ∃ es', SF h0 h' b r fv fl es' (putZ D s l) ∧ Stays h b r fv h' fv) := by
  refine ACalls.mono (Am.put_ok' S.m S.d R hB) ?_
  rintro y h' ⟨e, es', M, V, C⟩
  exact ⟨e, es', S.step M V C (fun z e => .inr e), fun v A => ⟨A.step S.m S.wf C (fun z e => .inr e), fun k l R => A.reads R C⟩⟩
theorem SF.bytes_ok (S : SF h0 h b r fv fl es D) {s : ByteArray} :
    ACalls prog 11 #[pt b, .string s] h (fun y h' => ∃ v, y = .tuple #[v, .int .i64 (numZ (bytE D s))] ∧ RdI prog h' .u8 v (bytL D s) ∧ SF h0 h' b r fv fl es D ∧ AP h' b r fv v ∧ Stays h b r fv h' fv ∧ Keeps h h') := by
  refine ACalls.mono (Am.bytes_ok (s := s) S.m S.d) ?_
  rintro y h' ⟨v, e, R, K, hz⟩
  exact ⟨v, e, R, S.keeps K, AP.fresh S.m S.wf K fun z e => ⟨hz z e, (R.blk_lt e).1⟩, fun w A => ⟨A.keeps S.m S.wf K, fun k l R => R.keeps K⟩, K⟩
end
theorem DecAll.det : ∀ {A W W' : List (List Int)}, DecAll A W → DecAll A W' → W = W' := fun {A W W'} H G => by
  refine List.ext_getElem? fun i => ?_
  by_cases hi : i < A.length
  · have h1 : i < W.length := by have := H.1; omega
    have h2 : i < W'.length := by have := G.1; omega
    have e1 := H.2 i A[i] W[i] (List.getElem?_eq_getElem hi) (List.getElem?_eq_getElem h1)
    have e2 := G.2 i A[i] W'[i] (List.getElem?_eq_getElem hi) (List.getElem?_eq_getElem h2)
    rw [List.getElem?_eq_getElem h1, List.getElem?_eq_getElem h2, e1.det e2]
  · rw [List.getElem?_eq_none (by have := H.1; omega), List.getElem?_eq_none (by have := G.1; omega)]
theorem DecAll.enc : ∀ {L : List (List Int)}, DecAll (L.map encL) (L.map (·.map fixR)) := fun {L} => ⟨by simp, fun i a l ha hl => by
  rw [List.getElem?_map] at ha hl
  obtain ⟨x, h1, rfl⟩ := Option.map_eq_some_iff.1 ha
  rw [h1] at hl
  simp only [Option.map_some, Option.some.injEq] at hl
  subst hl
  exact Dec.encAll x⟩
theorem LR.new {h : Heap} (H : Wf h) {vs : List Value} {L : List (List Int)} {c : Nat} (hl : vs.length = L.length) (hR : ∀ i, i < L.length → RdI prog h .i32 (vs.getD i undef) (L.getD i [])) : LR (h.new 47 vs) (.slice (some ⟨h.size, 0, none⟩) L.length c) L :=
  ⟨vs, Rd.new H asz47 (by omega), fun i hi => ⟨(hR i hi).keeps (Keeps.new H _ _), by simp [List.getD, show i < vs.length by omega]⟩⟩
theorem rdNew32 {h : Heap} (H : Wf h) (xs : List Int) {c : Nat} : RdI prog (h.new 21 (xs.map (Value.int .i32))) .i32 (.slice (some ⟨h.size, 0, none⟩) xs.length c) xs := Rd.new H asz21 (by simp)
theorem b1 {h : Heap} {x : Int} : abuildSlice prog h 47 1 #[(0, .int .i32 x)] = some (.slice (some ⟨h.size, 0, none⟩) 1 2, h.new 21 [.int .i32 x]) := build1 underlying47 asz21 azero21 rfl rfl
theorem b2 {h : Heap} {x y : Int} : abuildSlice prog h 47 2 #[(0, .int .i32 x), (1, .int .i32 y)] = some (.slice (some ⟨h.size, 0, none⟩) 2 3, h.new 21 [.int .i32 x, .int .i32 y]) := build2 underlying47 asz21 azero21 rfl rfl rfl
theorem b3 {h : Heap} {x y z : Int} : abuildSlice prog h 47 3 #[(0, .int .i32 x), (1, .int .i32 y), (2, .int .i32 z)] = some (.slice (some ⟨h.size, 0, none⟩) 3 4, h.new 21 [.int .i32 x, .int .i32 y, .int .i32 z]) := build3 underlying47 asz21 azero21 rfl rfl rfl rfl
theorem bb2 {h : Heap} {x y : Value} (h1 : one x = true) (h2 : one y = true) : abuildSlice prog h 22 2 #[(0, x), (1, y)] = some (.slice (some ⟨h.size, 0, none⟩) 2 3, h.new 47 [x, y]) := build2 underlying22 asz47 azero47 rfl h1 h2
theorem bb3 {h : Heap} {x y z : Value} (h1 : one x = true) (h2 : one y = true) (h3 : one z = true) : abuildSlice prog h 22 3 #[(0, x), (1, y), (2, z)] = some (.slice (some ⟨h.size, 0, none⟩) 3 4, h.new 47 [x, y, z]) := build3 underlying22 asz47 azero47 rfl h1 h2 h3
theorem b84 {h : Heap} {x y z w : Int} : abuildSlice prog h 23 4 #[(0, .int .u8 x), (1, .int .u8 y), (2, .int .u8 z), (3, .int .u8 w)] = some (.slice (some ⟨h.size, 0, none⟩) 4 5, h.new 5 [.int .u8 x, .int .u8 y, .int .u8 z, .int .u8 w]) := build4 underlying23 asz5 azero5 rfl rfl rfl rfl rfl
theorem conv_new {h : Heap} {cells : List Value} {n c : Nat} (hn : 0 < n) (hl : n ≤ cells.length) : aconvE prog (h.new 5 cells) 23 23 (.slice (some ⟨h.size, 0, none⟩) n c) = some (.slice (some ⟨h.size, 0, none⟩) n c, h.new 5 cells) := by
  simp [aconvE, underlying23, underlying5, isU8, new_self, hn, hl]
theorem conv_no {h : Heap} {v : Value} : aconv prog h 23 23 v = none := by simp [aconv, underlying23]
def fN : ByteArray := ⟨#[102]⟩
def gN : ByteArray := ⟨#[103]⟩
def X1 : List Int := [97, 98, 10, 99, 10]
def Y1 : List Int := [97, 10, 10, 98]
theorem enc1 : encLs [[97, 98], [99]] = X1 := by decide
theorem enc2 : (encLs [[120, 121, 122]]).length = 4 := by decide
theorem nameF : nameB fN = true := by decide
theorem nameG : nameB gN = true := by decide
theorem fNgN : fN ≠ gN := by decide
end Go.Proofs.YtiebaefhlacekaaDoor.Am
end
section
/- Files: awake answers true, by a walk. -/
set_option linter.unusedSimpArgs false
set_option linter.unusedVariables false
set_option maxHeartbeats 16000000
set_option maxRecDepth 40000
namespace Go.Proofs.YtiebaefhlacekaaDoor.Am
open Go Go.RowKit Go.Proofs.Tryd
theorem dec_lit {L W : List (List Int)} (h1 : W.map encL = L) (h2 : W.map (·.map fixR) = W) : DecAll L W := by
  have := DecAll.enc (L := W)
  rw [h1, h2] at this; exact this
theorem decF : DecAll (splitZ (trimZ (bytL [(fN, X1)] fN) 10) 10) [[97, 98], [99]] := dec_lit (by decide) (by decide)
theorem decG : DecAll (splitZ (trimZ (bytL [(fN, X1), (gN, Y1)] gN) 10) 10) [[97], [], [98]] := dec_lit (by decide) (by decide)
theorem isR_lit {L : List (List Int)} (hh : (L.all fun l => l.all fun x => decide (0 ≤ x ∧ x ≤ 1000)) = true) : ∀ i j, isR ((L.getD i []).getD j 0) := fun i j => by
  have h0 : isR 0 := by unfold isR; omega
  have h : ∀ l, l ∈ L → ∀ x, x ∈ l → isR x := fun l hl x hx => by
    have := List.all_eq_true.1 (List.all_eq_true.1 hh l hl) x hx
    have := of_decide_eq_true this
    unfold isR; omega
  rw [List.getD_eq_getElem?_getD]
  cases e : (L.getD i [])[j]? with
  | none => simpa using h0
  | some x =>
    simp only [Option.getD_some]
    rw [List.getD_eq_getElem?_getD] at e
    cases e2 : L[i]? with
    | none => rw [e2] at e; simp at e
    | some l =>
      rw [e2] at e
      simp only [Option.getD_some] at e
      exact h l (List.mem_of_getElem? e2) x (List.mem_of_getElem? e)
theorem awake_ok {h : Heap} : ACalls prog 15 #[] h (fun y h' => y = .bool true ∧ Keeps h h') := by
  refine acalls_of_W' func15 rfl (by kernel_rfl) (by kernel_rfl) (by simp [ntmps15]) ?_
  intro H
  simp only [wk, wt, wl, ↓reduceIte, Nat.reduceEqDiff, Nat.reduceAdd, Nat.zero_add, not_false_eq_true, not_true_eq_false]
  refine new_ok.use ?_
  rintro _ h1 ⟨b, r, rfl, M1, K1, hb, hr⟩
  have S1 : SF h h1 b r (.slice none 0 0) [] [] [] := SF.begin (Keeps.refl H) K1 M1 hb hr
  have PN := fun {a : Addr} => ptr_some (P := prog) (a := a) underlying26
  have W1 := S1.wf
  have N1 := Keeps.new W1 21 [.int .i32 97, .int .i32 98]
  have N2 := Keeps.new (Ch.wf N1) 21 [.int .i32 99]
  have A1 := rdNew32 W1 [97, 98] (c := 3)
  have A2 := rdNew32 (Ch.wf N1) [99] (c := 2)
  have A1' := A1.keeps N2
  have LR1 := LR.new (Ch.wf N2) (vs := [.slice (some ⟨h1.size, 0, none⟩) 2 3, .slice (some ⟨h1.size + 1, 0, none⟩) 1 2]) (L := [[97, 98], [99]]) (c := 3) rfl (fun i hi => by
    match i, hi with
    | 0, _ => exact A1'
    | 1, _ => exact A2)
  have K3 := (N1.trans N2).trans (Keeps.new (Ch.wf N2) 47 [.slice (some ⟨h1.size, 0, none⟩) 2 3, .slice (some ⟨h1.size + 1, 0, none⟩) 1 2])
  have S3 := S1.keeps K3
  simp only [wk, wt, wl, ↓reduceIte, Nat.reduceEqDiff, Nat.reduceAdd, Nat.zero_add, not_false_eq_true, not_true_eq_false, pt, PN, b2, b1, bb2 (x := .slice (some ⟨h1.size, 0, none⟩) 2 3) (y := .slice (some ⟨h1.size + 1, 0, none⟩) 1 2) rfl rfl, new_size]
  refine (S3.write_ok (s := fN) LR1 (isR_lit (by decide)) (by decide) (by decide) (by decide)).use ?_
  rintro _ h4 ⟨rfl, fv4, es4, S4, _⟩
  rw [show stoN [] [] fN (encLs [[97, 98], [99]]).length = 5 from by decide, show numZ (stoE [] [] fN (encLs [[97, 98], [99]]).length) = 0 from by decide]
  rw [show stoF [] [] fN (encLs [[97, 98], [99]]).length = [] from by decide, show stoD [] [] fN (encLs [[97, 98], [99]]) = [(fN, X1)] from by decide] at S4
  simp only [wk, wt, wl, ↓reduceIte, Nat.reduceEqDiff, Nat.reduceAdd, Nat.zero_add, not_false_eq_true, not_true_eq_false, pt]
  refine (S4.fails_ok (n := 2) (by decide)).use ?_
  rintro _ h5 ⟨rfl, fv5, S5, _⟩
  have N6 := Keeps.new S5.wf 21 [.int .i32 120, .int .i32 121, .int .i32 122]
  have A6 := rdNew32 S5.wf [120, 121, 122] (c := 4)
  have LR6 := LR.new (Ch.wf N6) (vs := [.slice (some ⟨h5.size, 0, none⟩) 3 4]) (L := [[120, 121, 122]]) (c := 2) rfl (fun i hi => by
    match i, hi with
    | 0, _ => exact A6)
  have K6 := N6.trans (Keeps.new (Ch.wf N6) 47 [.slice (some ⟨h5.size, 0, none⟩) 3 4])
  have S6 := S5.keeps K6
  simp only [wk, wt, wl, ↓reduceIte, Nat.reduceEqDiff, Nat.reduceAdd, Nat.zero_add, not_false_eq_true, not_true_eq_false, pt, b3, bi22 (x := .slice (some ⟨h5.size, 0, none⟩) 3 4) rfl, new_size]
  refine (S6.write_ok (s := fN) LR6 (isR_lit (by decide)) (by decide) (by decide) (by decide)).use ?_
  rintro _ h7 ⟨rfl, fv7, es7, S7, _⟩
  rw [show stoN [(fN, X1)] ([] ++ [2]) fN (encLs [[120, 121, 122]]).length = 2 from by decide, show numZ (stoE [(fN, X1)] ([] ++ [2]) fN (encLs [[120, 121, 122]]).length) = 28 from by decide]
  rw [show stoF [(fN, X1)] ([] ++ [2]) fN (encLs [[120, 121, 122]]).length = [] from by decide, show stoD [(fN, X1)] ([] ++ [2]) fN (encLs [[120, 121, 122]]) = [(fN, X1)] from by decide] at S7
  simp only [wk, wt, wl, ↓reduceIte, Nat.reduceEqDiff, Nat.reduceAdd, Nat.zero_add, not_false_eq_true, not_true_eq_false, pt]
  refine (read_ok (s := fN) S7.m S7.d).use ?_
  rintro _ h8 ⟨K8, ⟨he, _⟩ | ⟨_, Wd, hd, hcase⟩⟩
  · exact absurd (show bytE [(fN, X1)] fN = 0 from by decide) he
  have hWd := hd.det decF
  subst hWd
  obtain ⟨hbig, _⟩ | ⟨_, v8, rfl, L8⟩ := hcase
  · exact absurd hbig (by decide)
  have S8 := S7.keeps K8
  have len8 : abuiltin prog .len #[22] #[v8] = some (.int .i64 2) := by
    obtain ⟨vs, hR, _⟩ := L8
    exact hR.len underlying22
  simp only [wk, wt, wl, ↓reduceIte, Nat.reduceEqDiff, Nat.reduceAdd, Nat.zero_add, not_false_eq_true, not_true_eq_false, pt]
  have B9 := rdNewB S8.wf Y1
  have K9 := Keeps.new S8.wf 5 (bI Y1)
  have S9 := S8.keeps K9
  simp only [wk, wt, wl, ↓reduceIte, Nat.reduceEqDiff, Nat.reduceAdd, Nat.zero_add, not_false_eq_true, not_true_eq_false, pt, b84, conv_no, conv_new (h := h8) (cells := [Value.int IntKind.u8 97, Value.int IntKind.u8 10, Value.int IntKind.u8 10, Value.int IntKind.u8 98]) (n := 4) (c := 5) (by decide) (by decide)]
  refine (S9.put_ok (s := gN) B9 (fun y hy => by simp [Y1] at hy; unfold isB; omega)).use ?_
  rintro _ h10 ⟨rfl, es10, S10, T10⟩
  rw [show numZ (roomZ [(fN, X1)] gN Y1.length) = 0 from by decide]
  rw [show putZ [(fN, X1)] gN Y1 = [(fN, X1), (gN, Y1)] from by decide] at S10
  simp only [wk, wt, wl, ↓reduceIte, Nat.reduceEqDiff, Nat.reduceAdd, Nat.zero_add, not_false_eq_true, not_true_eq_false, pt]
  refine (read_ok (s := gN) S10.m S10.d).use ?_
  rintro _ h11 ⟨K11, ⟨he, _⟩ | ⟨_, Wd, hd2, hcase⟩⟩
  · exact absurd (show bytE [(fN, X1), (gN, Y1)] gN = 0 from by decide) he
  have hWd := hd2.det decG
  subst hWd
  obtain ⟨hbig, _⟩ | ⟨_, v11, rfl, L11⟩ := hcase
  · exact absurd hbig (by decide)
  have S11 := S10.keeps K11
  have N12 := Keeps.new S11.wf 21 [.int .i32 97]
  have N13 := Keeps.new (Ch.wf N12) 21 [.int .i32 98]
  have A12 := (rdNew32 S11.wf [97] (c := 2)).keeps N13
  have A13 := rdNew32 (Ch.wf N12) [98] (c := 2)
  have LR14 := LR.new (Ch.wf N13) (vs := [.slice (some ⟨h11.size, 0, none⟩) 1 2, .slice none 0 0, .slice (some ⟨h11.size + 1, 0, none⟩) 1 2]) (L := [[97], [], [98]]) (c := 4) rfl (fun i hi => by
    match i, hi with
    | 0, _ => exact A12
    | 1, _ => exact Rd.nil0
    | 2, _ => exact A13)
  have K14 := (N12.trans N13).trans (Keeps.new (Ch.wf N13) 47 [.slice (some ⟨h11.size, 0, none⟩) 1 2, .slice none 0 0, .slice (some ⟨h11.size + 1, 0, none⟩) 1 2])
  have L11' := L11.keeps K14
  have S14 := S11.keeps K14
  have d5 : decide ((5 : Int) = 5) = true := rfl
  have d0 : decide ((0 : Int) = 0) = true := rfl
  have d2 : decide ((2 : Int) = 2) = true := rfl
  have d28 : decide ((28 : Int) = 28) = true := rfl
  simp only [wk, wt, wl, ↓reduceIte, Nat.reduceEqDiff, Nat.reduceAdd, Nat.zero_add, not_false_eq_true, not_true_eq_false, pt, d5, d0, d2, d28, len8, b1, bb3 (x := .slice (some ⟨h11.size, 0, none⟩) 1 2) (y := .slice none 0 0) (z := .slice (some ⟨h11.size + 1, 0, none⟩) 1 2) rfl rfl rfl, new_size]
  refine (refSame_ok L11' LR14 (fun i => by
    match i with
    | 0 => decide
    | 1 => decide
    | 2 => decide
    | i + 3 => simp) (by decide)).use ?_
  rintro _ h15 ⟨rfl, rfl⟩
  simp only [wk, wt, wl, ↓reduceIte, Nat.reduceEqDiff, Nat.reduceAdd, Nat.zero_add, not_false_eq_true, not_true_eq_false, decide_true, pt]
  refine (waits_ok S14.m).use ?_
  rintro _ h16 ⟨rfl, rfl⟩
  have dz : decide ((((0 : Nat) : Int)) = 0) = true := rfl
  simp only [wk, wt, wl, ↓reduceIte, Nat.reduceEqDiff, Nat.reduceAdd, Nat.zero_add, not_false_eq_true, not_true_eq_false, List.length_nil, dz]
  all_goals first | exact S14.k | exact ⟨rfl, S14.k⟩
end Go.Proofs.YtiebaefhlacekaaDoor.Am
end
section
/- Files: the laws FilesNone and FilesLines told of abstract memory. -/
set_option linter.unusedSimpArgs false
set_option linter.unusedVariables false
set_option maxHeartbeats 16000000
set_option maxRecDepth 40000
namespace Go.Proofs.YtiebaefhlacekaaDoor.Am
open Go Go.RowKit Go.Proofs.Tryd
theorem boxDeed {h : Heap} {k n : Int} {s : ByteArray} {lv bv : Value} (h1 : one lv = true) (h2 : one bv = true) : boxV prog h 25 (.agg #[.int .i64 k, .int .i64 n, .string s, lv, bv]) = some (.pointer (some ⟨h.size, 0, none⟩), h.new 25 [.int .i64 k, .int .i64 n, .string s, lv, bv]) := by
  have e : (Value.agg #[.int .i64 k, .int .i64 n, .string s, lv, bv]).cells = #[.int .i64 k, .int .i64 n, .string s, lv, bv] := rfl
  have e2 : (#[Value.int .i64 k, .int .i64 n, .string s, lv, bv] : Array Value).all one = true := by simp [one_int, one_string, h1, h2]
  unfold boxV
  rw [asz25, e]
  simp only [e2, if_true]
theorem filesNone_law {k n : Int} {s : ByteArray} {lv bv : Value} {L : List (List Int)} {l : List Int} {h : Heap} (hL : LR h lv L) (hr : ∀ i j, isR ((L.getD i []).getD j 0)) (hn : (encLs L).length ≤ 100000000) (hll : L.length ≤ 100000000) (hB : RdI prog h .u8 bv l) :
    ACalls prog 3 #[.agg #[.int .i64 k, .int .i64 n, .string s, lv, bv]] h (fun y h' => y = .bool true ∧ Keeps h h') := by
  refine acalls_of_W' func3 rfl (by kernel_rfl) (by kernel_rfl) (by simp [ntmps3]) ?_
  intro H
  have hlo : one lv = true := by obtain ⟨vs, hR, _⟩ := hL; exact hR.one
  have K1 := Keeps.new H 25 [.int .i64 k, .int .i64 n, .string s, lv, bv]
  have V1 := Var.new (e := 25) H (cs := [.int .i64 k, .int .i64 n, .string s, lv, bv])
  have LV := fun {hh : Heap} (V : Var hh h.size [.int .i64 k, .int .i64 n, .string s, lv, bv]) => And.intro (V.load1 (P := prog) (t := 3) underlying3 rfl (i := 1)) (And.intro (V.load1 (P := prog) (t := 9) underlying9 rfl (i := 2)) (And.intro (V.load1 (P := prog) (t := 22) underlying22 rfl (i := 3)) (V.load1 (P := prog) (t := 23) underlying23 rfl (i := 4))))
  simp only [List.getElem?_cons_succ, List.getElem?_cons_zero] at LV
  simp only [wk, wt, wl, ↓reduceIte, Nat.reduceEqDiff, Nat.reduceAdd, Nat.zero_add, not_false_eq_true, not_true_eq_false, aeff_box, boxDeed hlo hB.one, LV V1]
  refine fails0.use_pure ?_
  simp only [wk, wt, wl, ↓reduceIte, Nat.reduceEqDiff, Nat.reduceAdd, Nat.zero_add, not_false_eq_true, not_true_eq_false, LV V1]
  refine (write0 (hL.keeps K1) hr hn hll).use ?_
  rintro _ h2 ⟨rfl, K2⟩
  have V2 := Keeps.var (Ch.wf K1) K2 V1
  simp only [wk, wt, wl, ↓reduceIte, Nat.reduceEqDiff, Nat.reduceAdd, Nat.zero_add, not_false_eq_true, not_true_eq_false, LV V2]
  refine read0.use_pure ?_
  simp only [wk, wt, wl, ↓reduceIte, Nat.reduceEqDiff, Nat.reduceAdd, Nat.zero_add, not_false_eq_true, not_true_eq_false, LV V2]
  refine bytes0.use ?_
  rintro _ h3 ⟨v3, rfl, K3⟩
  have V3 := Keeps.var (Ch.wf K2) K3 V2
  have d1 : decide ((1 : Int) = 1) = true := rfl
  have d0 : decide ((0 : Int) = 0) = true := rfl
  simp only [wk, wt, wl, ↓reduceIte, Nat.reduceEqDiff, Nat.reduceAdd, Nat.zero_add, not_false_eq_true, not_true_eq_false, LV V3, d1]
  refine (put0 ((hB.keeps K1).keeps (K2.trans K3))).use_pure ?_
  simp only [wk, wt, wl, ↓reduceIte, Nat.reduceEqDiff, Nat.reduceAdd, Nat.zero_add, not_false_eq_true, not_true_eq_false, d1]
  refine waits0.use_pure ?_
  simp only [wk, wt, wl, ↓reduceIte, Nat.reduceEqDiff, Nat.reduceAdd, Nat.zero_add, not_false_eq_true, not_true_eq_false, d0]
  refine names0.use_pure ?_
  have L0 : abuiltin prog .len #[37] #[.slice none 0 0] = some (.int .i64 0) := by simp [abuiltin, underlying37]
  simp only [wk, wt, wl, ↓reduceIte, Nat.reduceEqDiff, Nat.reduceAdd, Nat.zero_add, not_false_eq_true, not_true_eq_false, d0, L0]
  refine awake_ok.use ?_
  rintro _ h4 ⟨rfl, K4⟩
  simp only [wk, wt, wl, ↓reduceIte, Nat.reduceEqDiff, Nat.reduceAdd, Nat.zero_add, not_false_eq_true, not_true_eq_false]
  all_goals exact ((K1.trans K2).trans K3).trans K4
def cntZ (xs : List Int) (c : Int) : Nat := (xs.filter fun x => decide (x = c)).length
theorem cntZ_le {xs : List Int} {c : Int} : cntZ xs c ≤ xs.length := List.length_filter_le _ _
theorem cntZ_next {xs : List Int} {c : Int} {i : Nat} (hi : i < xs.length) : cntZ (xs.take (i + 1)) c = cntZ (xs.take i) c + if xs.getD i 0 = c then 1 else 0 := by
  rw [List.take_succ_eq_append_getElem hi, List.getD_eq_getElem?_getD, List.getElem?_eq_getElem hi]
  simp only [cntZ, List.filter_append, List.length_append, Option.getD_some]
  by_cases h : xs[i] = c <;> simp [h]
theorem pieces_len {c : Int} : ∀ {xs : List Int}, (splitZ xs c).length = cntZ xs c + 1
  | [] => rfl
  | x :: l => by
    have ih := pieces_len (c := c) (xs := l)
    simp only [splitZ]
    split
    · rename_i h
      simp only [cntZ, List.filter_cons, h, decide_true, if_true, List.length_cons] at ih ⊢; omega
    · rename_i h
      have h2 : cntZ (x :: l) c = cntZ l c := by simp [cntZ, List.filter_cons, h]
      rw [h2]
      split
      · rename_i p t e
        rw [e] at ih
        simpa using ih
      · rename_i e
        exact absurd e splitZ_ne
theorem ends_iff {xs : List Int} {c : Int} (h : 0 < xs.length) : endsB xs c = decide (xs.getD (xs.length - 1) 0 = c) := by
  unfold endsB
  have hd : xs.drop (xs.length - 1) = [xs.getD (xs.length - 1) 0] := by
    rw [List.drop_eq_getElem_cons (by omega), show xs.length - 1 + 1 = xs.length by omega, List.drop_length, List.getD_eq_getElem?_getD, List.getElem?_eq_getElem (by omega)]; rfl
  rw [hd]
  simp [show 1 ≤ xs.length by omega]
theorem lines_len {xs : List Int} {c : Int} : (splitZ (trimZ xs c) c).length = cntZ xs c + if endsB xs c = true then 0 else 1 := by
  rw [pieces_len]
  unfold trimZ
  by_cases h : endsB xs c = true
  · rw [if_pos h, if_pos h]
    have h1 : 0 < xs.length := by have := (of_decide_eq_true h).1; omega
    have e := cntZ_next (c := c) (i := xs.length - 1) (xs := xs) (by omega)
    rw [show xs.length - 1 + 1 = xs.length by omega, List.take_length] at e
    rw [ends_iff h1] at h
    rw [e, if_pos (of_decide_eq_true h)]
  · rw [if_neg h, if_neg h]
theorem trim_len {xs : List Int} {c : Int} : (trimZ xs c).length ≤ xs.length := by
  unfold trimZ
  split
  · rw [List.length_take]; omega
  · exact Nat.le_refl _
theorem lines_sum {A W : List (List Int)} {xs : List Int} {c : Int} (h : DecAll (splitZ (trimZ xs c) c) W) : sumL W ≤ xs.length + 1 := by
  have h1 := h.sum
  rw [sumL_split] at h1
  have := trim_len (xs := xs) (c := c)
  omega
theorem room_f {l : List Int} (h : l.length ≤ 262144) : roomZ [] fN l.length = 0 := by
  unfold roomZ
  rw [if_neg (by rw [nameF]; decide), if_neg (by omega), if_neg (fun g => by have := g.2; simp at this)]
theorem filesLines_law {bv : Value} {l : List Int} {h : Heap} (hB : RdI prog h .u8 bv l) (hl : ∀ x, x ∈ l → isB x) :
    ACalls prog 4 #[bv] h (fun y h' => y = .bool true ∧ Keeps h h') := by
  refine acalls_of_W' func4 rfl (by kernel_rfl) (by kernel_rfl) (by simp [ntmps4]) ?_
  intro H
  by_cases c1 : (3000 : Int) < l.length
  · simp only [wk, wt, wl, ↓reduceIte, Nat.reduceEqDiff, Nat.reduceAdd, Nat.zero_add, not_false_eq_true, not_true_eq_false, hB.len underlying23, decide_eq_true c1]
    all_goals exact Keeps.refl H
  · simp only [wk, wt, wl, ↓reduceIte, Nat.reduceEqDiff, Nat.reduceAdd, Nat.zero_add, not_false_eq_true, not_true_eq_false, hB.len underlying23, decide_eq_false c1]
    refine new_ok.use ?_
    rintro _ h1 ⟨b, r, rfl, M1, K1, hb, hr⟩
    have S1 : SF h h1 b r (.slice none 0 0) [] [] [] := SF.begin (Keeps.refl H) K1 M1 hb hr
    have PN := fun {a : Addr} => ptr_some (P := prog) (a := a) underlying26
    have d00 : decide ((0 : Int) = 0) = true := rfl
    simp only [wk, wt, wl, ↓reduceIte, Nat.reduceEqDiff, Nat.reduceAdd, Nat.zero_add, not_false_eq_true, not_true_eq_false, pt, PN]
    refine (S1.put_ok (s := fN) (hB.keeps K1) hl).use ?_
    rintro _ h2 ⟨rfl, es2, S2, _⟩
    have hz : roomZ [] fN l.length = 0 := room_f (by omega)
    rw [show numZ (roomZ [] fN l.length) = 0 from by rw [hz]; rfl]
    rw [show putZ [] fN l = [(fN, l)] from by unfold putZ; rw [if_pos hz]; rfl] at S2
    have dn : decide ((0 : Int) ≠ 0) = false := rfl
    simp only [wk, wt, wl, ↓reduceIte, Nat.reduceEqDiff, Nat.reduceAdd, Nat.zero_add, not_false_eq_true, not_true_eq_false, pt, d00, Bool.not_true]
    refine (read_ok (s := fN) S2.m S2.d).use ?_
    have hg : getD' [(fN, l)] fN = some l := rfl
    have hbE : bytE [(fN, l)] fN = 0 := by unfold bytE; rw [if_neg (by rw [nameF]; decide), hg]
    have hbL : bytL [(fN, l)] fN = l := by unfold bytL; rw [if_neg (by rw [nameF]; decide), hg]
    rintro _ h3 ⟨K3, ⟨he, _⟩ | ⟨_, Wd, hd, hcase⟩⟩
    · exact absurd hbE he
    rw [hbL] at hd
    have hs := lines_sum (A := []) hd
    obtain ⟨hbig, _⟩ | ⟨_, v3, rfl, L3⟩ := hcase
    · omega
    have hWl : Wd.length = cntZ l 10 + if endsB l 10 = true then 0 else 1 := by rw [← hd.1]; exact lines_len
    have KK := S2.k.trans K3
    have B3 := hB.keeps KK
    have hcl := cntZ_le (xs := l) (c := 10)
    have LW : abuiltin prog .len #[22] #[v3] = some (.int .i64 Wd.length) := by
      obtain ⟨vs, hR, _⟩ := L3
      exact hR.len underlying22
    simp only [wk, wt, wl, ↓reduceIte, Nat.reduceEqDiff, Nat.reduceAdd, Nat.zero_add, not_false_eq_true, not_true_eq_false]
    refine W_loop (fun tm h' => h' = h3 ∧ tm 0 = bv ∧ tm 4 = v3 ∧ tm 5 = .int .i64 0 ∧ ∃ (i : Nat), tm 7 = .int .i64 i ∧ i ≤ l.length ∧ tm 6 = .int .i64 (cntZ (l.take i) 10)) (fun tm _ => (l.length - intOf (tm 7)).toNat)
      ⟨rfl, (by first | rfl | (simp only [wk, wt, wl, ↓reduceIte, Nat.reduceEqDiff, Nat.reduceAdd, Nat.zero_add, not_false_eq_true, not_true_eq_false]; done) | (simp only [wk, wt, wl, ↓reduceIte, Nat.reduceEqDiff, Nat.reduceAdd, Nat.zero_add, not_false_eq_true, not_true_eq_false]; rfl)), (by first | rfl | (simp only [wk, wt, wl, ↓reduceIte, Nat.reduceEqDiff, Nat.reduceAdd, Nat.zero_add, not_false_eq_true, not_true_eq_false]; done) | (simp only [wk, wt, wl, ↓reduceIte, Nat.reduceEqDiff, Nat.reduceAdd, Nat.zero_add, not_false_eq_true, not_true_eq_false]; rfl)), (by first | rfl | (simp only [wk, wt, wl, ↓reduceIte, Nat.reduceEqDiff, Nat.reduceAdd, Nat.zero_add, not_false_eq_true, not_true_eq_false]; done) | (simp only [wk, wt, wl, ↓reduceIte, Nat.reduceEqDiff, Nat.reduceAdd, Nat.zero_add, not_false_eq_true, not_true_eq_false]; rfl)), 0, (by first | rfl | (simp only [wk, wt, wl, ↓reduceIte, Nat.reduceEqDiff, Nat.reduceAdd, Nat.zero_add, not_false_eq_true, not_true_eq_false]; done) | (simp only [wk, wt, wl, ↓reduceIte, Nat.reduceEqDiff, Nat.reduceAdd, Nat.zero_add, not_false_eq_true, not_true_eq_false]; rfl)), by omega, by simp only [wk, wt, wl, ↓reduceIte, Nat.reduceEqDiff, Nat.reduceAdd, Nat.zero_add, not_false_eq_true, not_true_eq_false, List.take_zero]; rfl⟩ ?_
    rintro tm h' ⟨rfl, t0, t4, t5, i, t7, hi, t6⟩
    simp only [wk, wt, wl, ↓reduceIte, Nat.reduceEqDiff, Nat.reduceAdd, Nat.zero_add, not_false_eq_true, not_true_eq_false, t0, t7, t6, B3.len underlying23]
    refine condK_dec (fun hd1 => ?_) (fun hd1 => ?_)
    · have hi1 : i < l.length := by omega
      have hc1 := cntZ_next (c := 10) hi1
      have hc2 := cntZ_le (xs := l.take i) (c := 10)
      rw [List.length_take] at hc2
      have IX := RdI.index B3 underlying23 asz5 (q := .i64) (i := (i : Int)) (by omega) (by omega)
      have AX := RdI.at B3 (t := 5) underlying5 rfl hi1
      simp only [Int.toNat_natCast] at IX
      by_cases hx : l.getD i 0 = 10
      · rw [if_pos hx] at hc1
        simp (disch := omega) only [wk, wt, wl, ↓reduceIte, Nat.reduceEqDiff, Nat.reduceAdd, Nat.zero_add, not_false_eq_true, not_true_eq_false, t0, t7, t6, IX, AX, decide_eq_true hx, IntWalk.i64_in, intOf_int]
        all_goals exact ⟨⟨t4, t5, i + 1, by simp, by omega, by rw [hc1]; simp⟩, by omega⟩
      · rw [if_neg hx] at hc1
        simp (disch := omega) only [wk, wt, wl, ↓reduceIte, Nat.reduceEqDiff, Nat.reduceAdd, Nat.zero_add, not_false_eq_true, not_true_eq_false, t0, t7, t6, IX, AX, decide_eq_false hx, IntWalk.i64_in, intOf_int]
        all_goals exact ⟨⟨t4, t5, i + 1, by simp, by omega, by rw [hc1]; simp⟩, by omega⟩
    · have he : l.take i = l := List.take_of_length_le (by omega)
      rw [he] at t6
      have w1 : IntKind.i64.wrap ((cntZ l 10 : Int) + 1) = (cntZ l 10 : Int) + 1 := IntWalk.i64_in _ (by omega)
      by_cases h0 : (l.length : Int) = 0
      · have hn : endsB l 10 = false := by unfold endsB; exact decide_eq_false fun g => by have := g.1; omega
        have hq : decide ((Wd.length : Int) = (cntZ l 10 : Int) + 1) = true := decide_eq_true (by rw [hWl, if_neg (by rw [hn]; decide)]; simp)
        simp only [wk, wt, wl, ↓reduceIte, Nat.reduceEqDiff, Nat.reduceAdd, Nat.zero_add, not_false_eq_true, not_true_eq_false, t0, t4, t5, t6, B3.len underlying23, decide_eq_true h0, w1, LW, hq, d00]
        refine awake_ok.use ?_
        rintro _ h4 ⟨rfl, K4⟩
        simp only [wk, wt, wl, ↓reduceIte, Nat.reduceEqDiff, Nat.reduceAdd, Nat.zero_add, not_false_eq_true, not_true_eq_false]
        all_goals exact KK.trans K4
      · have hlp : 0 < l.length := by omega
        have w2 : IntKind.i64.wrap ((l.length : Int) - 1) = ((l.length - 1 : Nat) : Int) := by rw [IntWalk.i64_in _ (by omega)]; omega
        have IX := RdI.index B3 underlying23 asz5 (q := .i64) (i := ((l.length - 1 : Nat) : Int)) (by omega) (by omega)
        have AX := RdI.at B3 (t := 5) underlying5 rfl (i := l.length - 1) (by omega)
        simp only [Int.toNat_natCast] at IX
        have hen := ends_iff (c := 10) hlp
        by_cases hx : l.getD (l.length - 1) 0 = 10
        · rw [decide_eq_true hx] at hen
          have hq : decide ((Wd.length : Int) = (cntZ l 10 : Int)) = true := decide_eq_true (by rw [hWl, if_pos hen]; simp)
          have hxn : decide (¬ l.getD (l.length - 1) 0 = 10) = false := decide_eq_false fun g => g hx
          simp only [wk, wt, wl, ↓reduceIte, Nat.reduceEqDiff, Nat.reduceAdd, Nat.zero_add, not_false_eq_true, not_true_eq_false, t0, t4, t5, t6, B3.len underlying23, decide_eq_false h0, w2, IX, AX, hxn, LW, hq, d00]
          refine awake_ok.use ?_
          rintro _ h4 ⟨rfl, K4⟩
          simp only [wk, wt, wl, ↓reduceIte, Nat.reduceEqDiff, Nat.reduceAdd, Nat.zero_add, not_false_eq_true, not_true_eq_false]
          all_goals exact KK.trans K4
        · rw [decide_eq_false hx] at hen
          have hq : decide ((Wd.length : Int) = (cntZ l 10 : Int) + 1) = true := decide_eq_true (by rw [hWl, if_neg (by rw [hen]; decide)]; simp)
          have hxn : decide (¬ l.getD (l.length - 1) 0 = 10) = true := decide_eq_true hx
          simp only [wk, wt, wl, ↓reduceIte, Nat.reduceEqDiff, Nat.reduceAdd, Nat.zero_add, not_false_eq_true, not_true_eq_false, t0, t4, t5, t6, B3.len underlying23, decide_eq_false h0, w1, w2, IX, AX, hxn, LW, hq, d00]
          refine awake_ok.use ?_
          rintro _ h4 ⟨rfl, K4⟩
          simp only [wk, wt, wl, ↓reduceIte, Nat.reduceEqDiff, Nat.reduceAdd, Nat.zero_add, not_false_eq_true, not_true_eq_false]
          all_goals exact KK.trans K4
end Go.Proofs.YtiebaefhlacekaaDoor.Am
end
section
/- Files: the document's Of; the law FilesFails told of abstract memory. -/
set_option linter.unusedSimpArgs false
set_option linter.unusedVariables false
set_option maxHeartbeats 16000000
set_option maxRecDepth 40000
namespace Go.Proofs.YtiebaefhlacekaaDoor.Am
open Go Go.RowKit Go.Proofs.Tryd
section
variable {h : Heap}
theorem refOf_ok {lv : Value} {L : List (List Int)} (hL : LR h lv L) (hr : ∀ i j, isR ((L.getD i []).getD j 0)) (hn : (encLs L).length ≤ 100000000) (hll : L.length ≤ 100000000) :
    ACalls prog 22 #[lv] h (fun y h' => RdI prog h' .u8 y (encLs L) ∧ Keeps h h') := by
  refine acalls_of_W' func22 rfl (by kernel_rfl) (by kernel_rfl) (by simp [ntmps22]) ?_
  intro H
  obtain ⟨vs, hR, hE⟩ := hL
  simp only [wk, wt, wl, ↓reduceIte, Nat.reduceEqDiff, Nat.reduceAdd, Nat.zero_add, not_false_eq_true, not_true_eq_false]
  refine W_loop (fun tm h' => Keeps h h' ∧ tm 0 = lv ∧ ∃ (i : Nat) (v : Value), tm 4 = .int .i64 i ∧ tm 3 = v ∧ i ≤ L.length ∧ Own prog h.size h' 1 v (encLs (L.take i)).length (bI (encLs (L.take i)))) (fun tm _ => (L.length - intOf (tm 4)).toNat)
    ⟨Keeps.refl H, (by first | rfl | (simp only [wk, wt, wl, ↓reduceIte, Nat.reduceEqDiff, Nat.reduceAdd, Nat.zero_add, not_false_eq_true, not_true_eq_false]; done) | (simp only [wk, wt, wl, ↓reduceIte, Nat.reduceEqDiff, Nat.reduceAdd, Nat.zero_add, not_false_eq_true, not_true_eq_false]; rfl)), 0, .slice none 0 0, (by first | rfl | (simp only [wk, wt, wl, ↓reduceIte, Nat.reduceEqDiff, Nat.reduceAdd, Nat.zero_add, not_false_eq_true, not_true_eq_false]; done) | (simp only [wk, wt, wl, ↓reduceIte, Nat.reduceEqDiff, Nat.reduceAdd, Nat.zero_add, not_false_eq_true, not_true_eq_false]; rfl)), (by first | rfl | (simp only [wk, wt, wl, ↓reduceIte, Nat.reduceEqDiff, Nat.reduceAdd, Nat.zero_add, not_false_eq_true, not_true_eq_false]; done) | (simp only [wk, wt, wl, ↓reduceIte, Nat.reduceEqDiff, Nat.reduceAdd, Nat.zero_add, not_false_eq_true, not_true_eq_false]; rfl)), by omega, by simpa [encLs, bI] using Own.nil0⟩ ?_
  rintro tm h' ⟨K, t0, i, v, t4, t3, hi, O⟩
  have RK := hR.keeps K
  simp only [wk, wt, wl, ↓reduceIte, Nat.reduceEqDiff, Nat.reduceAdd, Nat.zero_add, not_false_eq_true, not_true_eq_false, t0, t4, RK.len underlying22]
  refine condK_dec (fun hd => ?_) (fun hd => ?_)
  · have hi1 : i < L.length := by omega
    obtain ⟨hEi, hvi⟩ := hE i hi1
    have hat := encLs_at hi1
    have hge := encL_ge (L.getD i [])
    simp (disch := omega) only [wk, wt, wl, ↓reduceIte, Nat.reduceEqDiff, Nat.reduceAdd, Nat.zero_add, not_false_eq_true, not_true_eq_false, t0, t4, t3, RK.index underlying22 asz47 (q := .i64) (i := (i : Int)), Int.toNat_natCast, RK.at0 (t := 47) underlying47 rfl hi1 (by decide), Nat.mul_one, hvi]
    refine (refEncode_ok (hEi.keeps K) (by omega) (hr i)).use ?_
    rintro v2 h2 ⟨O2, K2⟩
    have KK := K.trans K2
    obtain ⟨v3, h3, e3, O3, R3, C3, hv3⟩ := (O.keeps K2).appendRd (P := prog) (Ch.wf KK) (Ch.le KK) underlying23 underlying23 rfl elem5 fits5 (by decide) O2 (by omega)
    have K3 := KK.step C3 fun b hb => hb.2
    obtain ⟨v4, h4, e4, O4, C4, R4, hv4, _⟩ := O3.append1 (P := prog) (Ch.wf C3) (Ch.le K3) underlying23 elem5 fits5 (by decide) (by decide) (xs := [.int .u8 10]) rfl (by omega)
    have K4 := K3.step C4 fun b hb => hb.2
    simp (disch := omega) only [wk, wt, wl, ↓reduceIte, Nat.reduceEqDiff, Nat.reduceAdd, Nat.zero_add, not_false_eq_true, not_true_eq_false, t0, t4, t3, e3, bi8, e4, IntWalk.i64_in, intOf_int]
    refine ⟨⟨K4, i + 1, v4, by simp, rfl, by omega, ?_⟩, by omega⟩
    rw [encLs_next hi1, bI_append, bI_append, List.length_append, List.length_append]
    exact O4
  · have he : L.take i = L := List.take_of_length_le (by omega)
    rw [he] at O
    simp only [wk, wt, wl, ↓reduceIte, Nat.reduceEqDiff, Nat.reduceAdd, Nat.zero_add, not_false_eq_true, not_true_eq_false, t3]
    all_goals exact ⟨O.rdI, K⟩
theorem small_bd {L : List (List Int)} (h : smallB L = true) : L.length ≤ 300 ∧ lenS L ≤ 3001 ∧ (encLs L).length ≤ 12304 := by
  obtain ⟨h1, h2⟩ := of_decide_eq_true h
  have h3 := encLs_len L
  unfold runesN at h2
  split at h2 <;> omega
theorem room_f1 {X : List Int} {n : Nat} (h : n ≤ 262144) : roomZ [(fN, X)] fN n = 0 := by
  unfold roomZ
  rw [if_neg (by rw [nameF]; decide), if_neg (by omega), if_neg (fun g => by have := g.2; simp at this)]
theorem get_f {X : List Int} : bytE [(fN, X)] fN = 0 ∧ bytL [(fN, X)] fN = X := by
  have hg : getD' [(fN, X)] fN = some X := rfl
  exact ⟨by unfold bytE; rw [if_neg (by rw [nameF]; decide), hg], by unfold bytL; rw [if_neg (by rw [nameF]; decide), hg]⟩
theorem put_f {X Y : List Int} : putD [(fN, X)] fN Y = [(fN, Y)] := rfl
theorem put_f0 {Y : List Int} : putD [] fN Y = [(fN, Y)] := rfl
theorem str_neq {s : ByteArray} : abin prog .neq 9 (.string s) (.string s) = some (.bool false) := by simp [abin, astr]
theorem filesFails_law {lv0 lv1 : Value} {L0 L1 : List (List Int)} {n : Int} (hL0 : LR h lv0 L0) (hr0 : ∀ i j, isR ((L0.getD i []).getD j 0)) (hb0 : lenS L0 ≤ 1048576 ∧ L0.length ≤ 1048576)
    (hL1 : LR h lv1 L1) (hr1 : ∀ i j, isR ((L1.getD i []).getD j 0)) (hb1 : lenS L1 ≤ 1048576 ∧ L1.length ≤ 1048576) :
    ACalls prog 6 #[lv0, lv1, .int .i64 n] h (fun y h' => y = .bool true ∧ Keeps h h') := by
  refine acalls_of_W' func6 rfl (by kernel_rfl) (by kernel_rfl) (by simp [ntmps6]) ?_
  intro H
  simp only [wk, wt, wl, ↓reduceIte, Nat.reduceEqDiff, Nat.reduceAdd, Nat.zero_add, not_false_eq_true, not_true_eq_false]
  refine (small_ok hL0 ⟨by omega, by omega⟩).use_pure ?_
  cases hs0 : smallB L0 with
  | false =>
    simp only [wk, wt, wl, ↓reduceIte, Nat.reduceEqDiff, Nat.reduceAdd, Nat.zero_add, not_false_eq_true, not_true_eq_false, Bool.not_false]
    refine awake_ok.use ?_
    rintro _ h2 ⟨rfl, K2⟩
    simp only [wk, wt, wl, ↓reduceIte, Nat.reduceEqDiff, Nat.reduceAdd, Nat.zero_add, not_false_eq_true, not_true_eq_false]
    all_goals exact K2
  | true =>
    simp only [wk, wt, wl, ↓reduceIte, Nat.reduceEqDiff, Nat.reduceAdd, Nat.zero_add, not_false_eq_true, not_true_eq_false, Bool.not_true]
    refine (small_ok hL1 ⟨by omega, by omega⟩).use_pure ?_
    cases hs1 : smallB L1 with
    | false =>
      simp only [wk, wt, wl, ↓reduceIte, Nat.reduceEqDiff, Nat.reduceAdd, Nat.zero_add, not_false_eq_true, not_true_eq_false, Bool.not_false]
      refine awake_ok.use ?_
      rintro _ h2 ⟨rfl, K2⟩
      simp only [wk, wt, wl, ↓reduceIte, Nat.reduceEqDiff, Nat.reduceAdd, Nat.zero_add, not_false_eq_true, not_true_eq_false]
      all_goals exact K2
    | true =>
      obtain ⟨p1, p2, p3⟩ := small_bd hs0
      obtain ⟨q1, q2, q3⟩ := small_bd hs1
      have q4 : (encLs L1).length ≤ 100000000 := Nat.le_trans q3 (by decide)
      by_cases hn : n < 0
      · simp only [wk, wt, wl, ↓reduceIte, Nat.reduceEqDiff, Nat.reduceAdd, Nat.zero_add, not_false_eq_true, not_true_eq_false, Bool.not_true, decide_eq_true hn]
        refine awake_ok.use ?_
        rintro _ h2 ⟨rfl, K2⟩
        simp only [wk, wt, wl, ↓reduceIte, Nat.reduceEqDiff, Nat.reduceAdd, Nat.zero_add, not_false_eq_true, not_true_eq_false]
        all_goals exact K2
      · simp only [wk, wt, wl, ↓reduceIte, Nat.reduceEqDiff, Nat.reduceAdd, Nat.zero_add, not_false_eq_true, not_true_eq_false, Bool.not_true, decide_eq_false hn]
        refine new_ok.use ?_
        rintro _ h1 ⟨b, r, rfl, M1, K1, hb, hr⟩
        have S1 : SF h h1 b r (.slice none 0 0) [] [] [] := SF.begin (Keeps.refl H) K1 M1 hb hr
        have PN := fun {a : Addr} => ptr_some (P := prog) (a := a) underlying26
        obtain ⟨X0, hX0⟩ : ∃ X0, encLs L0 = X0 := ⟨_, rfl⟩
        obtain ⟨X1, hX1⟩ : ∃ X1, encLs L1 = X1 := ⟨_, rfl⟩
        simp only [wk, wt, wl, ↓reduceIte, Nat.reduceEqDiff, Nat.reduceAdd, Nat.zero_add, not_false_eq_true, not_true_eq_false, pt, PN]
        refine (S1.write_ok (s := fN) (hL0.keeps K1) hr0 (by omega) (by omega) (by simp)).use ?_
        rintro _ h2 ⟨rfl, fv2, es2, S2, _⟩
        rw [hX0] at p3 S2
        have hz0 : roomZ [] fN X0.length = 0 := room_f (by omega)
        rw [show stoF [] [] fN X0.length = [] from by unfold stoF; rw [if_neg (fun g => g hz0)]; rfl,
          show stoD [] [] fN X0 = [(fN, X0)] from by unfold stoD; rw [if_pos (by unfold stoE; rw [if_neg (fun g => g hz0)])]; rfl] at S2
        simp only [wk, wt, wl, ↓reduceIte, Nat.reduceEqDiff, Nat.reduceAdd, Nat.zero_add, not_false_eq_true, not_true_eq_false, pt]
        refine (S2.bytes_ok (s := fN)).use ?_
        rintro _ h3 ⟨wv, rfl, RW, S3, AW, _, _⟩
        rw [get_f.2] at RW
        simp only [wk, wt, wl, ↓reduceIte, Nat.reduceEqDiff, Nat.reduceAdd, Nat.zero_add, not_false_eq_true, not_true_eq_false, pt]
        refine (S3.fails_ok (n := n) (by simp)).use ?_
        rintro _ h4 ⟨rfl, fv4, S4, T4⟩
        obtain ⟨AW4, RW4⟩ := T4 wv AW
        simp only [wk, wt, wl, ↓reduceIte, Nat.reduceEqDiff, Nat.reduceAdd, Nat.zero_add, not_false_eq_true, not_true_eq_false, pt]
        refine (S4.write_ok (s := fN) (hL1.keeps S4.k) hr1 (by omega) (by omega) (by simp)).use ?_
        rintro _ h5 ⟨rfl, fv5, es5, S5, T5⟩
        rw [hX1] at q3 S5 ⊢
        have hz1 : ∀ X : List Int, roomZ [(fN, X)] fN X1.length = 0 := fun X => room_f1 (by omega)
        obtain ⟨AW5, RW5⟩ := T5 wv AW4
        have RWu := RW5 _ _ (RW4 _ _ RW)
        rw [show stoF [(fN, X0)] ([] ++ [n]) fN X1.length = [] from by unfold stoF; rw [if_neg (fun g => g (hz1 X0))]; rfl] at S5
        have eN5 : stoN [(fN, X0)] ([] ++ [n]) fN X1.length = if 0 ≤ n ∧ n < X1.length then n else X1.length := by unfold stoN; rw [if_neg (fun g => g (hz1 X0))]; rfl
        have eE5 : stoE [(fN, X0)] ([] ++ [n]) fN X1.length = if 0 ≤ n ∧ n < X1.length then 4 else 0 := by unfold stoE; rw [if_neg (fun g => g (hz1 X0))]; rfl
        simp only [wk, wt, wl, ↓reduceIte, Nat.reduceEqDiff, Nat.reduceAdd, Nat.zero_add, not_false_eq_true, not_true_eq_false, pt]
        refine (S5.bytes_ok (s := fN)).use ?_
        rintro _ h6 ⟨nv, rfl, RN, S6, AN, T6, K6⟩
        have RW6 := RWu.keeps K6
        simp only [wk, wt, wl, ↓reduceIte, Nat.reduceEqDiff, Nat.reduceAdd, Nat.zero_add, not_false_eq_true, not_true_eq_false, pt]
        refine (refOf_ok (hL1.keeps S6.k) hr1 q4 (by omega)).use ?_
        rintro ov h7 ⟨RO, K7⟩
        rw [hX1] at RO
        have S7 := S6.keeps K7
        have RN7 := RN.keeps K7
        have RW7 := RW6.keeps K7
        have d28 : decide (¬ (28 : Int) = 28) = false := rfl
        have d0 : decide ((0 : Int) = 0) = true := rfl
        have dz : decide ((((0 : Nat) : Int)) = 0) = true := rfl
        by_cases c1 : n < (X1.length : Int)
        · rw [eN5, eE5, if_pos ⟨by omega, c1⟩, if_pos ⟨by omega, c1⟩]
          have eD5 : stoD [(fN, X0)] ([] ++ [n]) fN X1 = [(fN, X0)] := by unfold stoD; rw [if_neg (by rw [eE5, if_pos ⟨by omega, c1⟩]; decide)]
          rw [eD5] at S7 RN7
          rw [get_f.2] at RN7
          have dn : decide (¬ n = n) = false := decide_eq_false fun g => g rfl
          simp only [wk, wt, wl, ↓reduceIte, Nat.reduceEqDiff, Nat.reduceAdd, Nat.zero_add, not_false_eq_true, not_true_eq_false, pt, Rd.len RO underlying23, decide_eq_true c1, dn, show numZ 4 = 28 from rfl, d28, conv_str RN7, conv_str RW7, str_neq]
          refine (S7.write_ok (s := fN) (hL1.keeps S7.k) hr1 q4 (by omega) (by simp)).use ?_
          rintro _ h8 ⟨rfl, fv8, es8, S8, T8⟩
          rw [hX1] at S8 ⊢
          rw [show stoF [(fN, X0)] [] fN X1.length = [] from by unfold stoF; rw [if_neg (fun g => g (hz1 X0))]; rfl,
            show stoD [(fN, X0)] [] fN X1 = [(fN, X1)] from by unfold stoD; rw [if_pos (by unfold stoE; rw [if_neg (fun g => g (hz1 X0))])]; rfl] at S8
          rw [show stoN [(fN, X0)] [] fN X1.length = X1.length from by unfold stoN; rw [if_neg (fun g => g (hz1 X0))],
            show numZ (stoE [(fN, X0)] [] fN X1.length) = 0 from by unfold stoE; rw [if_neg (fun g => g (hz1 X0))]; rfl]
          simp only [wk, wt, wl, ↓reduceIte, Nat.reduceEqDiff, Nat.reduceAdd, Nat.zero_add, not_false_eq_true, not_true_eq_false, pt]
          refine (S8.bytes_ok (s := fN)).use ?_
          rintro _ h9 ⟨mv, rfl, RM, S9, AM, T9, K9⟩
          rw [get_f.2] at RM
          have dl : decide ((X1.length : Int) = X1.length) = true := decide_eq_true rfl
          simp only [wk, wt, wl, ↓reduceIte, Nat.reduceEqDiff, Nat.reduceAdd, Nat.zero_add, not_false_eq_true, not_true_eq_false, pt, dl, d0, Rd.len RM underlying23]
          refine (waits_ok S9.m).use_pure ?_
          simp only [wk, wt, wl, ↓reduceIte, Nat.reduceEqDiff, Nat.reduceAdd, Nat.zero_add, not_false_eq_true, not_true_eq_false, List.length_nil, dz]
          refine awake_ok.use ?_
          rintro _ h10 ⟨rfl, K10⟩
          simp only [wk, wt, wl, ↓reduceIte, Nat.reduceEqDiff, Nat.reduceAdd, Nat.zero_add, not_false_eq_true, not_true_eq_false]
          all_goals exact S9.k.trans K10
        · rw [eN5, eE5, if_neg (fun g => c1 g.2), if_neg (fun g => c1 g.2)]
          have eD5 : stoD [(fN, X0)] ([] ++ [n]) fN X1 = [(fN, X1)] := by unfold stoD; rw [if_pos (by rw [eE5, if_neg (fun g => c1 g.2)])]; rfl
          rw [eD5] at S7 RN7
          rw [get_f.2] at RN7
          have dl : decide ((X1.length : Int) = X1.length) = true := decide_eq_true rfl
          simp only [wk, wt, wl, ↓reduceIte, Nat.reduceEqDiff, Nat.reduceAdd, Nat.zero_add, not_false_eq_true, not_true_eq_false, pt, Rd.len RO underlying23, decide_eq_false c1, dl, d0, show numZ 0 = 0 from rfl, Rd.len RN7 underlying23]
          refine (waits_ok S7.m).use_pure ?_
          simp only [wk, wt, wl, ↓reduceIte, Nat.reduceEqDiff, Nat.reduceAdd, Nat.zero_add, not_false_eq_true, not_true_eq_false, List.length_nil, dz]
          refine awake_ok.use ?_
          rintro _ h10 ⟨rfl, K10⟩
          simp only [wk, wt, wl, ↓reduceIte, Nat.reduceEqDiff, Nat.reduceAdd, Nat.zero_add, not_false_eq_true, not_true_eq_false]
          all_goals exact S7.k.trans K10
end
end Go.Proofs.YtiebaefhlacekaaDoor.Am
end
section
/- Files: the law's line; the document's Twin: rows of one's own; plain: which rows the bytes of lines are. -/
set_option linter.unusedSimpArgs false
set_option linter.unusedVariables false
set_option maxHeartbeats 16000000
set_option maxRecDepth 40000
namespace Go.Proofs.YtiebaefhlacekaaDoor.Am
open Go Go.RowKit Go.Proofs.Tryd
theorem idxB_none {c : UInt8} : ∀ {l : List UInt8}, (∀ b, b ∈ l → b ≠ c) → Lib.indexByte l c = -1
  | [], _ => rfl
  | b :: l, h => by
    have ih := idxB_none (l := l) fun x hx => h x (List.mem_cons_of_mem _ hx)
    have hb : (b == c) = false := by simpa using h b (by simp)
    unfold Lib.indexByte
    rw [hb, ih]; rfl
theorem ba_ext {s t : ByteArray} (h : s.toList = t.toList) : s = t := by
  rw [Lib.toList_data, Lib.toList_data] at h
  exact ByteArray.ext (Array.ext' h)
theorem sidx {s : ByteArray} {i : Nat} (h : i < s.size) : ∃ c : UInt8, s.data.toList[i]? = some c ∧ aindex prog 9 (.string s) (.int .i64 (i : Int)) = some (.int .u8 (c.toNat : Int)) := by
  have e : s[i]? = some s[i] := getElem?_pos s i h
  refine ⟨s[i], ?_, ?_⟩
  · have h' : i < s.data.size := h
    rw [Array.getElem?_toList, Array.getElem?_eq_getElem h']; rfl
  · simp only [aindex, underlying9, Int.toNat_natCast, e]
    rw [if_pos (by omega)]
theorem sslice {s : ByteArray} {i : Nat} {hh : Heap} (h : i ≤ s.size) : aslice prog hh 9 (.string s) none (some (.int .i64 (i : Int))) none = some (.string (s.extract 0 i)) := by
  simp [aslice, underlying9, boundOf, h]
theorem line_ok {s : ByteArray} {h : Heap} (hs : s.size ≤ 1000000000000) : ACalls prog 18 #[.string s] h (fun y h' => ∃ t, y = .string t ∧ (0 ≤ Lib.indexByte s.data.toList 10 → t ≠ s) ∧ h' = h) := by
  refine acalls_of_W func18 rfl (by kernel_rfl) (by kernel_rfl) (by simp [ntmps18]) ?_
  simp only [wk, wt, wl, ↓reduceIte, Nat.reduceEqDiff, Nat.reduceAdd, Nat.zero_add, not_false_eq_true, not_true_eq_false]
  refine W_loop (fun tm h' => h' = h ∧ tm 0 = .string s ∧ ∃ (i : Nat), tm 3 = .int .i64 i ∧ i ≤ s.size ∧ ∀ (j : Nat), j < i → s.data.toList[j]? ≠ some 10) (fun tm _ => (s.size - intOf (tm 3)).toNat)
    ⟨rfl, (by first | rfl | (simp only [wk, wt, wl, ↓reduceIte, Nat.reduceEqDiff, Nat.reduceAdd, Nat.zero_add, not_false_eq_true, not_true_eq_false]; done) | (simp only [wk, wt, wl, ↓reduceIte, Nat.reduceEqDiff, Nat.reduceAdd, Nat.zero_add, not_false_eq_true, not_true_eq_false]; rfl)), 0, (by first | rfl | (simp only [wk, wt, wl, ↓reduceIte, Nat.reduceEqDiff, Nat.reduceAdd, Nat.zero_add, not_false_eq_true, not_true_eq_false]; done) | (simp only [wk, wt, wl, ↓reduceIte, Nat.reduceEqDiff, Nat.reduceAdd, Nat.zero_add, not_false_eq_true, not_true_eq_false]; rfl)), by omega, fun j hj => by omega⟩ ?_
  rintro tm h' ⟨rfl, t0, i, t3, hi, hj⟩
  simp only [wk, wt, wl, ↓reduceIte, Nat.reduceEqDiff, Nat.reduceAdd, Nat.zero_add, not_false_eq_true, not_true_eq_false, t0, t3, slen]
  refine condK_dec (fun hd => ?_) (fun hd => ?_)
  · have hi1 : i < s.size := by omega
    obtain ⟨c, e1, e2⟩ := sidx hi1
    by_cases hc : c = 10
    · subst hc
      have d : decide (((10 : UInt8).toNat : Int) = 10) = true := rfl
      simp only [wk, wt, wl, ↓reduceIte, Nat.reduceEqDiff, Nat.reduceAdd, Nat.zero_add, not_false_eq_true, not_true_eq_false, t0, t3, e2, d, sslice (s := s) (i := i) (by omega)]
      refine ⟨s.extract 0 i, rfl, fun _ e => ?_, trivial⟩
      have := congrArg ByteArray.size e
      rw [ByteArray.size_extract] at this
      omega
    · have d : decide ((c.toNat : Int) = 10) = false := decide_eq_false fun g => hc (UInt8.toNat_inj.1 (by show c.toNat = 10; omega))
      simp only [wk, wt, wl, ↓reduceIte, Nat.reduceEqDiff, Nat.reduceAdd, Nat.zero_add, not_false_eq_true, not_true_eq_false, t0, t3, e2, d]
      simp (disch := omega) only [wk, wt, wl, ↓reduceIte, Nat.reduceEqDiff, Nat.reduceAdd, Nat.zero_add, not_false_eq_true, not_true_eq_false, t0, t3, IntWalk.i64_in, intOf_int]
      all_goals exact ⟨⟨i + 1, by simp, by omega, fun j hj' => by
        by_cases e : j = i
        · subst e; rw [e1]; simpa using hc
        · exact hj j (by omega)⟩, by omega⟩
  · simp only [wk, wt, wl, ↓reduceIte, Nat.reduceEqDiff, Nat.reduceAdd, Nat.zero_add, not_false_eq_true, not_true_eq_false, t0]
    refine ⟨s, rfl, fun g => ?_, trivial⟩
    have : Lib.indexByte s.data.toList 10 = -1 := idxB_none fun b hb e => by
      obtain ⟨j, hj', rfl⟩ := List.getElem_of_mem hb
      have hjs : j < s.size := by simpa using hj'
      exact hj j (by omega) (by rw [List.getElem?_eq_getElem hj', e])
    rw [this] at g; omega
theorem encV_no {n : Int} (h0 : 0 ≤ n) (h1 : n ≤ 1114111) (h : n ≠ 10) : 10 ∉ encV n := by
  unfold encV
  split
  · simp; omega
  · split
    · simp; omega
    · split
      · simp; omega
      · simp; omega
theorem encL_no {l : List Int} (h : ∀ r, r ∈ l → r ≠ 10) : 10 ∉ encL l := fun hm => by
  obtain ⟨r, hr, hx⟩ := List.mem_flatMap.1 hm
  have hf := fixR_range (r := r)
  refine encV_no hf.1 hf.2 (fun e => ?_) hx
  unfold fixR at e
  split at e
  · exact h r hr e
  · omega
theorem split_app {a rest : List Int} {c : Int} (h : c ∉ a) : splitZ (a ++ c :: rest) c = a :: splitZ rest c := by
  induction a with
  | nil => simp [splitZ]
  | cons x a ih =>
    simp only [List.mem_cons, not_or] at h
    have := ih h.2
    simp only [List.cons_append, splitZ, this]
    rw [if_neg (fun e => h.1 e.symm)]
def joinZ : List (List Int) → List Int
  | [] => []
  | [l] => l
  | l :: m :: L => l ++ 10 :: joinZ (m :: L)
theorem split_join : ∀ {A : List (List Int)}, A ≠ [] → (∀ a, a ∈ A → 10 ∉ a) → splitZ (joinZ A) 10 = A
  | [], h, _ => absurd rfl h
  | [l], _, h => splitZ_none (h l (by simp))
  | l :: m :: L, _, h => by
    rw [joinZ, split_app (h l (by simp)), split_join (A := m :: L) (by simp) fun a ha => h a (List.mem_cons_of_mem _ ha)]
theorem encLs_join : ∀ {L : List (List Int)}, L ≠ [] → encLs L = joinZ (L.map encL) ++ [10]
  | [], h => absurd rfl h
  | [l], _ => by simp [encLs, joinZ]
  | l :: m :: L, _ => by
    have ih := encLs_join (L := m :: L) (by simp)
    have e : encLs (l :: m :: L) = encL l ++ [10] ++ encLs (m :: L) := by simp [encLs]
    rw [e, ih]
    simp only [List.map_cons, joinZ, List.append_assoc, List.cons_append, List.nil_append]
theorem trim_app {x : List Int} : trimZ (x ++ [10]) 10 = x := by
  have : endsB (x ++ [10]) 10 = true := by
    unfold endsB; simp
  unfold trimZ
  rw [if_pos this]; simp
theorem lines_back {L W : List (List Int)} (hne : L ≠ []) (h : ∀ l, l ∈ L → ∀ r, r ∈ l → r ≠ 10) (hd : DecAll (splitZ (trimZ (encLs L) 10) 10) W) : W = L.map (·.map fixR) := by
  rw [encLs_join hne, trim_app, split_join (by simpa using hne) (fun a ha => by
    obtain ⟨l, hl, rfl⟩ := List.mem_map.1 ha
    exact encL_no (h l hl))] at hd
  exact hd.det DecAll.enc
/-- A row of one's own, that may be written. -/
def TV (B : Nat) (h : Heap) (v : Value) (l : List Int) : Prop := RdI prog h .i32 v l ∧ (∀ z, blkOf v = some z → B ≤ z ∧ ∃ cs, Var h z cs) ∧ (l ≠ [] → ∃ b, v = .slice (some ⟨b, 0, none⟩) l.length 0)
theorem TV.ch {B : Nat} {h h' : Heap} {v : Value} {l : List Int} {D : Nat → Prop} (T : TV B h v l) (H : Wf h) (C : Ch D h h') (hd : ∀ z, blkOf v = some z → ¬ D z) : TV B h' v l :=
  ⟨C.rd T.1 hd, fun z e => by
    obtain ⟨h1, cs, V⟩ := T.2.1 z e
    exact ⟨h1, cs, Ch.var H C V (hd z e)⟩, T.2.2⟩
/-- Rows of one's own, apart from one another. -/
def TR' (B : Nat) (h : Heap) (ov : Value) (W : List (Value × List Int)) : Prop :=
  (∀ z, blkOf ov = some z → B ≤ z) ∧ (∀ p, p ∈ W → TV B h p.1 p.2 ∧ ∀ z, blkOf p.1 = some z → blkOf ov ≠ some z) ∧ W.Pairwise fun p q => ∀ z, blkOf p.1 = some z → blkOf q.1 ≠ some z
theorem app_lit0 {h : Heap} {x : Value} {l : List Int} (R : RdI prog (h.new 21 []) .i32 x l) (hl : l.length ≤ 1048576) :
    (l = [] ∧ aappend prog (h.new 21 []) 47 47 (.slice (some ⟨h.size, 0, none⟩) 0 1) x = some (.slice (some ⟨h.size, 0, none⟩) 0 1, h.new 21 [])) ∨
    (l ≠ [] ∧ aappend prog (h.new 21 []) 47 47 (.slice (some ⟨h.size, 0, none⟩) 0 1) x = some (.slice (some ⟨h.size + 1, 0, none⟩) l.length 0, (h.new 21 []).new 21 (l.map (Value.int .i32)))) := by
  have hn := R.news
  obtain ⟨f1, f2, f3⟩ := fits21
  have ha := asz21
  cases l with
  | nil =>
    refine .inl ⟨rfl, ?_⟩
    simp only [List.length_nil, List.map_nil] at hn
    simp [aappend, underlying47, elem21, isRowD, f1, f2, f3, hn]
  | cons y l =>
    refine .inr ⟨by simp, ?_⟩
    have hb : (y :: l).length * 4 ≤ 140737488355328 := by simp only [List.length_cons] at hl ⊢; omega
    have hm : (y :: l).length ≠ 0 := by simp
    generalize y :: l = m at *
    simp [aappend, underlying47, elem21, isRowD, f1, f2, f3, hn, new_self, ha, hm, hb, new_size]
theorem take_next' {L : List (List Int)} {i : Nat} (hi : i < L.length) : L.take (i + 1) = L.take i ++ [L.getD i []] := by
  rw [List.take_succ_eq_append_getElem hi, List.getD_eq_getElem?_getD, List.getElem?_eq_getElem hi]; rfl
theorem twin_ok {h : Heap} {lv : Value} {L : List (List Int)} (hL : LR h lv L) (hll : L.length ≤ 1048576) (hl : lenS L ≤ 1048576) :
    ACalls prog 20 #[lv] h (fun y h' => ∃ W : List (Value × List Int), W.map (·.2) = L ∧ Rd prog h' 1 y W.length (W.map (·.1)) ∧ TR' h.size h' y W ∧ Keeps h h') := by
  refine acalls_of_W' func20 rfl (by kernel_rfl) (by kernel_rfl) (by simp [ntmps20]) ?_
  intro H
  obtain ⟨vs, hR, hE⟩ := hL
  simp only [wk, wt, wl, ↓reduceIte, Nat.reduceEqDiff, Nat.reduceAdd, Nat.zero_add, not_false_eq_true, not_true_eq_false]
  refine W_loop (fun tm h' => Keeps h h' ∧ tm 0 = lv ∧ ∃ (i : Nat) (v : Value) (W : List (Value × List Int)), tm 4 = .int .i64 i ∧ tm 3 = v ∧ i ≤ L.length ∧ W.map (·.2) = L.take i ∧ Own prog h.size h' 1 v W.length (W.map (·.1)) ∧ TR' h.size h' v W) (fun tm _ => (L.length - intOf (tm 4)).toNat)
    ⟨Keeps.refl H, (by first | rfl | (simp only [wk, wt, wl, ↓reduceIte, Nat.reduceEqDiff, Nat.reduceAdd, Nat.zero_add, not_false_eq_true, not_true_eq_false]; done) | (simp only [wk, wt, wl, ↓reduceIte, Nat.reduceEqDiff, Nat.reduceAdd, Nat.zero_add, not_false_eq_true, not_true_eq_false]; rfl)), 0, .slice none 0 0, [], (by first | rfl | (simp only [wk, wt, wl, ↓reduceIte, Nat.reduceEqDiff, Nat.reduceAdd, Nat.zero_add, not_false_eq_true, not_true_eq_false]; done) | (simp only [wk, wt, wl, ↓reduceIte, Nat.reduceEqDiff, Nat.reduceAdd, Nat.zero_add, not_false_eq_true, not_true_eq_false]; rfl)), (by first | rfl | (simp only [wk, wt, wl, ↓reduceIte, Nat.reduceEqDiff, Nat.reduceAdd, Nat.zero_add, not_false_eq_true, not_true_eq_false]; done) | (simp only [wk, wt, wl, ↓reduceIte, Nat.reduceEqDiff, Nat.reduceAdd, Nat.zero_add, not_false_eq_true, not_true_eq_false]; rfl)), by omega, by simp, Own.nil0, fun z e => (by cases e), fun p hp => (by cases hp), .nil⟩ ?_
  rintro tm h' ⟨K, t0, i, v, W, t4, t3, hi, hW, O, T1, T2, T3⟩
  have RK := hR.keeps K
  simp only [wk, wt, wl, ↓reduceIte, Nat.reduceEqDiff, Nat.reduceAdd, Nat.zero_add, not_false_eq_true, not_true_eq_false, t0, t4, RK.len underlying22]
  refine condK_dec (fun hd => ?_) (fun hd => ?_)
  · have hi1 : i < L.length := by omega
    obtain ⟨hEi, hvi⟩ := hE i hi1
    have hat := lenS_at hi1
    have hw := Ch.wf K
    have hle := Ch.le K
    have N1 := Keeps.new hw 21 []
    have hWl : W.length = i := by
      have := congrArg List.length hW
      simpa [Nat.min_eq_left hi] using this
    have step : ∀ (nv : Value) (h2 : Heap), Keeps h' h2 → TV h.size h2 nv (L.getD i []) → (∀ z, blkOf nv = some z → h'.size ≤ z) → one nv = true →
        ∃ v4 h4, aappend prog (h2.new 47 [nv]) 22 22 v (.slice (some ⟨h2.size, 0, none⟩) 1 2) = some (v4, h4) ∧ Keeps h h4 ∧ ((W ++ [(nv, L.getD i [])]).map (·.2) = L.take (i + 1)) ∧ Own prog h.size h4 1 v4 (W ++ [(nv, L.getD i [])]).length ((W ++ [(nv, L.getD i [])]).map (·.1)) ∧ TR' h.size h4 v4 (W ++ [(nv, L.getD i [])]) := by
      intro nv h2 K2 TN hnew h1
      have KK := K.trans K2
      obtain ⟨v4, h4, e4, O4, C4, R4, hv4, _⟩ := (O.keeps K2).append1 (P := prog) (Ch.wf K2) (Ch.le KK) underlying22 elem47 fits47 (by decide) (by decide) (xs := [nv]) rfl (by omega)
      have hvl : ∀ z, blkOf v = some z → z < h'.size := fun z e => (O.1.blk_lt e).1
      refine ⟨v4, h4, e4, KK.step C4 fun b hb => hb.2, ?_, ?_, ?_, ?_, ?_⟩
      · rw [List.map_append, hW, take_next' hi1]; rfl
      · rw [List.length_append, List.map_append]; exact O4
      · intro z e; rw [hv4] at e; have := blk_at e; have := Ch.le KK; omega
      · intro p hp
        rcases List.mem_append.1 hp with hp | hp
        · obtain ⟨q1, q2⟩ := T2 p hp
          refine ⟨(q1.ch hw K2 fun z e e' => e').ch (Ch.wf K2) C4 fun z e d => q2 z e d.1, fun z e e' => ?_⟩
          rw [hv4] at e'
          have := blk_at e'
          have := (q1.1.blk_lt e).1
          have := Ch.le K2
          omega
        · simp only [List.mem_singleton] at hp
          subst hp
          refine ⟨TN.ch (Ch.wf K2) C4 fun z e d => by have := hnew z e; have := hvl z d.1; omega, fun z e e' => ?_⟩
          rw [hv4] at e'
          have := blk_at e'
          have := (TN.1.blk_lt e).1
          omega
      · rw [List.pairwise_append]
        refine ⟨T3, List.pairwise_singleton _ _, fun p hp q hq z e e' => ?_⟩
        simp only [List.mem_singleton] at hq
        subst hq
        have := ((T2 p hp).1.1.blk_lt e).1
        have := hnew z e'
        omega
    have RI := RK.index underlying22 asz47 (q := .i64) (i := (i : Int)) (by omega) (by omega)
    have RN1 := RK.keeps N1
    have RA := RN1.at0 (t := 47) underlying47 rfl hi1 (by decide)
    simp only [Int.toNat_natCast] at RI
    rw [Nat.mul_one, hvi] at RA
    rcases app_lit0 ((hEi.keeps K).keeps N1) (by omega) with ⟨hnil, ea⟩ | ⟨hne, ea⟩
    · have TN : TV h.size (h'.new 21 []) (.slice (some ⟨h'.size, 0, none⟩) 0 1) (L.getD i []) := by
        rw [hnil]
        exact ⟨Rd.new hw asz21 rfl, fun z e => by have := blk_at e; subst this; exact ⟨hle, _, Var.new hw⟩, fun g => absurd rfl g⟩
      obtain ⟨v4, h4, e4, K4, w1, w2, w3⟩ := step _ _ N1 TN (fun z e => by have := blk_at e; omega) rfl
      simp only [wk, wt, wl, ↓reduceIte, Nat.reduceEqDiff, Nat.reduceAdd, Nat.zero_add, not_false_eq_true, not_true_eq_false, t0, t4, t3, build0 underlying47 asz21, RI, RA, ea, bi22 (x := .slice (some ⟨h'.size, 0, none⟩) 0 1) rfl, e4]
      simp (disch := omega) only [wk, wt, wl, ↓reduceIte, Nat.reduceEqDiff, Nat.reduceAdd, Nat.zero_add, not_false_eq_true, not_true_eq_false, t0, t4, IntWalk.i64_in, intOf_int]
      all_goals exact ⟨⟨K4, i + 1, v4, _, by simp, rfl, by omega, w1, w2, w3⟩, by omega⟩
    · have N2 := Keeps.new (Ch.wf N1) 21 ((L.getD i []).map (Value.int .i32))
      have TN : TV h.size ((h'.new 21 []).new 21 ((L.getD i []).map (Value.int .i32))) (.slice (some ⟨h'.size + 1, 0, none⟩) (L.getD i []).length 0) (L.getD i []) :=
        ⟨Rd.new (Ch.wf N1) asz21 (by simp), fun z e => by have := blk_at e; subst this; exact ⟨by omega, _, Var.new (Ch.wf N1)⟩, fun _ => ⟨_, rfl⟩⟩
      obtain ⟨v4, h4, e4, K4, w1, w2, w3⟩ := step _ _ (N1.trans N2) TN (fun z e => by have := blk_at e; omega) rfl
      simp only [new_size] at e4
      simp only [wk, wt, wl, ↓reduceIte, Nat.reduceEqDiff, Nat.reduceAdd, Nat.zero_add, not_false_eq_true, not_true_eq_false, t0, t4, t3, build0 underlying47 asz21, RI, RA, ea, bi22 (x := .slice (some ⟨h'.size + 1, 0, none⟩) (L.getD i []).length 0) rfl, new_size, e4]
      simp (disch := omega) only [wk, wt, wl, ↓reduceIte, Nat.reduceEqDiff, Nat.reduceAdd, Nat.zero_add, not_false_eq_true, not_true_eq_false, t0, t4, IntWalk.i64_in, intOf_int]
      all_goals exact ⟨⟨K4, i + 1, v4, _, by simp, rfl, by omega, w1, w2, w3⟩, by omega⟩
  · have he : L.take i = L := List.take_of_length_le (by omega)
    simp only [wk, wt, wl, ↓reduceIte, Nat.reduceEqDiff, Nat.reduceAdd, Nat.zero_add, not_false_eq_true, not_true_eq_false, t3]
    all_goals exact ⟨W, by rw [hW, he], O.1, ⟨T1, T2, T3⟩, K⟩
end Go.Proofs.YtiebaefhlacekaaDoor.Am
end
section
/- Files: the law FilesBack told of abstract memory. -/
set_option linter.unusedSimpArgs false
set_option linter.unusedVariables false
set_option maxHeartbeats 16000000
set_option maxRecDepth 40000
namespace Go.Proofs.YtiebaefhlacekaaDoor.Am
open Go Go.RowKit Go.Proofs.Tryd
theorem get_s {s : ByteArray} {X : List Int} (hn : nameB s = true) : bytE [(s, X)] s = 0 ∧ bytL [(s, X)] s = X := by
  have hg : getD' [(s, X)] s = some X := by simp [getD', findD]
  exact ⟨by unfold bytE; rw [if_neg (by rw [hn]; decide), hg], by unfold bytL; rw [if_neg (by rw [hn]; decide), hg]⟩
theorem fix0 : fixR 0 = 0 := by decide
/-- What the law's loop has made of the rows. -/
structure FX (L : List (List Int)) (i k : Nat) (W : List (Value × List Int)) : Prop where
  len : W.length = L.length
  each : ∀ j, ((W.map (·.2)).getD j []).length = (L.getD j []).length
  val : ∀ j a, ((W.map (·.2)).getD j []).getD a 0 = if j < i ∨ j = i ∧ a < k then fixR ((L.getD j []).getD a 0) else (L.getD j []).getD a 0
  seen : ∀ j a, j < i ∨ j = i ∧ a < k → (L.getD j []).getD a 0 ≠ 10
theorem getD_over {l : List Int} {a : Nat} (h : l.length ≤ a) : l.getD a 0 = 0 := by
  rw [List.getD_eq_getElem?_getD, List.getElem?_eq_none h]; rfl
theorem getD_at {α : Type} {l : List α} {i : Nat} {d : α} (h : i < l.length) : l.getD i d = l[i] := by
  rw [List.getD_eq_getElem?_getD, List.getElem?_eq_getElem h]; rfl
theorem FX.next {L : List (List Int)} {i k : Nat} {W : List (Value × List Int)} (F : FX L i k W) (hk : (L.getD i []).length ≤ k) : FX L (i + 1) 0 W := by
  refine ⟨F.len, F.each, fun j a => ?_, fun j a hj => ?_⟩
  · rw [F.val j a]
    by_cases h1 : j < i ∨ j = i ∧ a < k
    · rw [if_pos h1, if_pos (by omega)]
    · rw [if_neg h1]
      by_cases h2 : j < i + 1 ∨ j = i + 1 ∧ a < 0
      · rw [if_pos h2]
        have : j = i := by omega
        subst this
        rw [getD_over (by omega), fix0]
      · rw [if_neg h2]
  · by_cases h1 : j < i ∨ j = i ∧ a < k
    · exact F.seen j a h1
    · have : j = i := by omega
      subst this
      rw [getD_over (by omega)]; decide
theorem FX.fin {L : List (List Int)} {i : Nat} {W : List (Value × List Int)} (F : FX L i 0 W) (hi : L.length ≤ i) : W.map (·.2) = L.map (·.map fixR) ∧ ∀ l, l ∈ L → ∀ r, r ∈ l → r ≠ 10 := by
  obtain ⟨F1, F2, F3, F4⟩ := F
  have hl : (W.map (·.2)).length = L.length := by rw [List.length_map]; exact F1
  obtain ⟨M, hM⟩ : ∃ M, W.map (·.2) = M := ⟨_, rfl⟩
  rw [hM] at F2 F3 hl ⊢
  constructor
  · refine List.ext_getElem (by rw [hl]; simp) fun j h1 h2 => ?_
    have hj : j < L.length := by omega
    have q1 := F2 j
    rw [getD_at h1, getD_at hj] at q1
    rw [List.getElem_map]
    refine List.ext_getElem (by rw [q1]; simp) fun a g1 g2 => ?_
    have hv := F3 j a
    have ha : a < L[j].length := by omega
    rw [if_pos (.inl (by omega)), getD_at h1, getD_at hj, getD_at g1, getD_at ha] at hv
    rw [hv, List.getElem_map]
  · intro l hl r hr
    obtain ⟨j, hj, rfl⟩ := List.getElem_of_mem hl
    obtain ⟨a, ha, rfl⟩ := List.getElem_of_mem hr
    have := F4 j a (.inl (by omega))
    rw [getD_at hj, getD_at ha] at this
    exact this
theorem FX.step {L : List (List Int)} {i k : Nat} {W : List (Value × List Int)} {v : Value} {l : List Int} (F : FX L i k W) (hi : W[i]? = some (v, l)) (hk : k < l.length) (h10 : l.getD k 0 ≠ 10) :
    FX L i (k + 1) (W.set i (v, l.set k (fixR (l.getD k 0)))) ∧ l.getD k 0 = (L.getD i []).getD k 0 := by
  have hil : i < W.length := (List.getElem?_eq_some_iff.1 hi).1
  have hgi : (W.map (·.2)).getD i [] = l := by simp [List.getD, hi]
  have hl : l.getD k 0 = (L.getD i []).getD k 0 := by
    have := F.val i k
    rw [hgi, if_neg (by omega)] at this
    exact this
  have hset : ∀ j, ((W.set i (v, l.set k (fixR (l.getD k 0)))).map (·.2)).getD j [] = if j = i then l.set k (fixR (l.getD k 0)) else (W.map (·.2)).getD j [] := fun j => by
    rw [List.map_set, List.getD_eq_getElem?_getD, List.getElem?_set]
    by_cases e : i = j
    · subst e
      rw [if_pos rfl, if_pos (by rw [List.length_map]; exact hil), if_pos rfl]; rfl
    · rw [if_neg e, if_neg (fun h => e h.symm), List.getD_eq_getElem?_getD]
  refine ⟨⟨by rw [List.length_set]; exact F.len, fun j => ?_, fun j a => ?_, fun j a hj => ?_⟩, hl⟩
  · rw [hset]
    by_cases e : j = i
    · subst e
      rw [if_pos rfl, List.length_set]
      have := F.each j
      rw [hgi] at this; exact this
    · rw [if_neg e]; exact F.each j
  · rw [hset]
    by_cases e : j = i
    · subst e
      rw [if_pos rfl, List.getD_eq_getElem?_getD, List.getElem?_set]
      by_cases ea : k = a
      · subst ea
        rw [if_pos rfl, if_pos hk, if_pos (.inr ⟨rfl, Nat.lt_succ_self _⟩), ← hl]; rfl
      · rw [if_neg ea, ← List.getD_eq_getElem?_getD, ← hgi, F.val j a]
        by_cases g : j < j ∨ j = j ∧ a < k
        · rw [if_pos g, if_pos (by omega)]
        · rw [if_neg g, if_neg (by omega)]
    · rw [if_neg e, F.val j a]
      by_cases g : j < i ∨ j = i ∧ a < k
      · rw [if_pos g, if_pos (by omega)]
      · rw [if_neg g, if_neg (by omega)]
  · by_cases g : j < i ∨ j = i ∧ a < k
    · exact F.seen j a g
    · have e1 : j = i := by omega
      have e2 : a = k := by omega
      subst e1; subst e2
      rw [← hl]; exact h10
theorem FX.same {L : List (List Int)} {i k : Nat} {W : List (Value × List Int)} {v : Value} {l : List Int} (F : FX L i k W) (hi : W[i]? = some (v, l)) (hk : k < l.length) (h10 : l.getD k 0 ≠ 10) (hf : fixR (l.getD k 0) = l.getD k 0) : FX L i (k + 1) W := by
  obtain ⟨G, _⟩ := F.step hi hk h10
  have hil : i < W.length := (List.getElem?_eq_some_iff.1 hi).1
  have e1 : l.set k (l.getD k 0) = l := by
    refine List.ext_getElem? fun a => ?_
    rw [List.getElem?_set]
    by_cases ea : k = a
    · subst ea; rw [if_pos rfl, if_pos hk, List.getD_eq_getElem?_getD, List.getElem?_eq_getElem hk]; rfl
    · rw [if_neg ea]
  have e2 : W.set i (v, l) = W := by
    refine List.ext_getElem? fun a => ?_
    rw [List.getElem?_set]
    by_cases ea : i = a
    · subst ea; rw [if_pos rfl, if_pos hil, hi]
    · rw [if_neg ea]
  rw [hf, e1, e2] at G; exact G
/-- Rows that are read and may be written. -/
def RW (B : Nat) (h : Heap) (ov : Value) (W : List (Value × List Int)) : Prop := Rd prog h 1 ov W.length (W.map (·.1)) ∧ TR' B h ov W
theorem RW.lr {B : Nat} {h : Heap} {ov : Value} {W : List (Value × List Int)} (R : RW B h ov W) : LR h ov (W.map (·.2)) := by
  refine ⟨W.map (·.1), by rw [List.length_map]; exact R.1, fun i hi => ?_⟩
  rw [List.length_map] at hi
  have hp := (R.2.2.1 W[i] (List.getElem_mem hi)).1.1
  have e1 : (W.map (·.1)).getD i undef = W[i].1 := by simp [List.getD, hi]
  have e2 : (W.map (·.2)).getD i [] = W[i].2 := by simp [List.getD, hi]
  rw [e1, e2]
  exact ⟨hp, by simp [hi]⟩
/-- A rune of them is written. -/
theorem RW.put {B : Nat} {h : Heap} {ov v : Value} {W : List (Value × List Int)} {l : List Int} {i k : Nat} {x : Int} (R : RW B h ov W) (H : Wf h) (hi : W[i]? = some (v, l)) (hk : k < l.length) :
    ∃ h', storeV prog h 21 (.pointer (some (eltA v 1 k))) (.int .i32 x) = some (undef, h') ∧ RW B h' ov (W.set i (v, l.set k x)) ∧ Ch (fun y => B ≤ y) h h' := by
  obtain ⟨R1, T1, T2, T3⟩ := R
  have hil : i < W.length := (List.getElem?_eq_some_iff.1 hi).1
  have hmem : (v, l) ∈ W := List.mem_of_getElem? hi
  obtain ⟨⟨q1, q2, q3⟩, q4⟩ := T2 _ hmem
  have q3' : l ≠ [] → ∃ b, v = .slice (some ⟨b, 0, none⟩) l.length 0 := q3
  have q1' : RdI prog h .i32 v l := q1
  clear q1
  have q1 := q1'
  obtain ⟨b, hv⟩ := q3' (by intro e; subst e; simp at hk)
  subst hv
  obtain ⟨hB, cs, V⟩ := q2 b rfl
  have O : OwnR prog h 1 (.slice (some ⟨b, 0, none⟩) l.length 0) l.length (l.map (Value.int .i32)) := ⟨q1, fun z e => by
    have := blk_at e
    subst this
    obtain ⟨kb, v1, v2, v3, v4, _⟩ := V
    exact ⟨kb, v1, v4⟩⟩
  obtain ⟨h', e1, O', C, z, _, _⟩ := O.storeA (P := prog) H (t := 21) (w := .int .i32 x) (i := k) asz21 rfl (by simp [Value.cells, one]) hk
  have hcl : l.length ≤ cs.length := by
    obtain ⟨kb, v1, v2, _⟩ := V
    obtain ⟨_, h2⟩ := q1
    rcases h2 with ⟨h0, _⟩ | ⟨b', o, c, k', e, _, g1, _, _, g4, _⟩
    · omega
    · cases e
      rw [v1] at g1; cases g1
      rw [v2] at g4; omega
  obtain ⟨h'', e2, V', C', z'⟩ := V.store1 (P := prog) (t := 21) (v := .int .i32 x) (i := k) H asz21 (by omega) rfl
  have hea : eltA (.slice (some ⟨b, 0, none⟩) l.length 0) 1 k = ⟨b, k, none⟩ := by simp [eltA]
  have heq : h'' = h' := by
    rw [hea, e2] at e1
    simpa using e1
  subst heq
  have hov : over (l.map (Value.int .i32)) (k * 1) (Value.int .i32 x).cells.toList = (l.set k x).map (Value.int .i32) := by
    show over (l.map (Value.int .i32)) (k * 1) [Value.int .i32 x] = _
    rw [Nat.mul_one, over_one (by simpa using hk), List.map_set]
  rw [hov] at O'
  have hnz : ∀ z, z ≠ b → ¬ z = b := fun z h => h
  refine ⟨h'', e1, ⟨?_, T1, fun p hp => ?_, ?_⟩, C'.mono fun y e => by subst e; exact hB⟩
  · have hm1 : (W.set i (.slice (some ⟨b, 0, none⟩) l.length 0, l.set k x)).map (·.1) = W.map (·.1) := by
      rw [List.map_set]
      refine List.ext_getElem? fun a => ?_
      rw [List.getElem?_set]
      by_cases ea : i = a
      · subst ea; rw [if_pos rfl, if_pos (by rw [List.length_map]; exact hil), List.getElem?_map, hi]; rfl
      · rw [if_neg ea]
    rw [hm1, List.length_set]
    exact C'.rd R1 fun z e e' => by subst e'; exact q4 z rfl e
  · obtain ⟨j, hj⟩ := List.mem_iff_getElem?.1 hp
    rw [List.getElem?_set] at hj
    split at hj
    · rename_i hij
      cases hj
      refine ⟨⟨?_, fun z e => by have := blk_at e; subst this; exact ⟨hB, _, V'⟩, fun _ => ⟨b, by rw [List.length_set]⟩⟩, q4⟩
      have := O'.1
      show Rd prog h'' 1 _ (l.set k x).length ((l.set k x).map (Value.int .i32))
      rw [List.length_set]; exact this
    · rename_i hij
      have hp' := List.mem_of_getElem? hj
      obtain ⟨g1, g2⟩ := T2 p hp'
      have hjl : j < W.length := (List.getElem?_eq_some_iff.1 hj).1
      have hpj : W[j] = p := by
        have := List.getElem?_eq_getElem hjl
        rw [hj] at this; exact (Option.some.inj this).symm
      have hiw : W[i] = (.slice (some ⟨b, 0, none⟩) l.length 0, l) := by
        have := List.getElem?_eq_getElem hil
        rw [hi] at this; exact (Option.some.inj this).symm
      have hb : blkOf p.1 ≠ some b := fun hb => by
        rcases Nat.lt_or_gt_of_ne hij with h1 | h1
        · have := List.pairwise_iff_getElem.1 T3 i j hil hjl h1 b (by rw [hiw]; rfl)
          rw [hpj] at this; exact this hb
        · have := List.pairwise_iff_getElem.1 T3 j i hjl hil h1 b (by rw [hpj]; exact hb)
          rw [hiw] at this; exact this rfl
      exact ⟨g1.ch H C' fun z e e' => hb (by rw [e, e']), g2⟩
  · have hfst : ∀ (j : Nat) (g1 : j < (W.set i (.slice (some ⟨b, 0, none⟩) l.length 0, l.set k x)).length) (g2 : j < W.length), ((W.set i (.slice (some ⟨b, 0, none⟩) l.length 0, l.set k x))[j]).1 = W[j].1 := fun j g1 g2 => by
      rw [List.getElem_set]
      split
      · rename_i e
        subst e
        have := List.getElem?_eq_getElem g2
        rw [hi] at this
        rw [← Option.some.inj this]
      · rfl
    rw [List.pairwise_iff_getElem]
    intro j1 j2 g1 g2 hlt z e
    have l1 : j1 < W.length := by rw [List.length_set] at g1; exact g1
    have l2 : j2 < W.length := by rw [List.length_set] at g2; exact g2
    rw [hfst j1 g1 l1] at e
    rw [hfst j2 g2 l2]
    exact List.pairwise_iff_getElem.1 T3 j1 j2 l1 l2 hlt z e
theorem fix_bad {r : Int} (h : r < 0 ∨ 1114111 < r ∨ 55296 ≤ r ∧ r ≤ 57343) : fixR r = 65533 := by
  unfold fixR validB
  rw [if_neg]
  intro g
  have := of_decide_eq_true g
  omega
theorem fix_good {r : Int} (h : ¬ (r < 0 ∨ 1114111 < r ∨ 55296 ≤ r ∧ r ≤ 57343)) : fixR r = r := by
  unfold fixR validB
  rw [if_pos]
  exact decide_eq_true (by omega)
theorem str_ne {s t : ByteArray} (h : t ≠ s) : abin prog .neq 9 (.string s) (.string t) = some (.bool true) := by
  have : ¬ s.toList = t.toList := fun e => h (ba_ext e).symm
  simp [abin, astr, this]
theorem filesBack_law {h : Heap} {lv : Value} {L : List (List Int)} {s : ByteArray} (hL : LR h lv L) (hr : ∀ i j, isR ((L.getD i []).getD j 0)) (hb : lenS L ≤ 1048576 ∧ L.length ≤ 1048576) (hs : s.size ≤ 1048576) :
    ACalls prog 5 #[lv, .string s] h (fun y h' => y = .bool true ∧ Keeps h h') := by
  refine acalls_of_W' func5 rfl (by kernel_rfl) (by kernel_rfl) (by simp [ntmps5]) ?_
  intro H
  have LN : abuiltin prog .len #[22] #[lv] = some (.int .i64 L.length) := by obtain ⟨vs, hR, _⟩ := hL; exact hR.len underlying22
  simp only [wk, wt, wl, ↓reduceIte, Nat.reduceEqDiff, Nat.reduceAdd, Nat.zero_add, not_false_eq_true, not_true_eq_false]
  refine (small_ok hL ⟨by omega, by omega⟩).use_pure ?_
  cases hs0 : smallB L with
  | false =>
    simp only [wk, wt, wl, ↓reduceIte, Nat.reduceEqDiff, Nat.reduceAdd, Nat.zero_add, not_false_eq_true, not_true_eq_false, Bool.not_false]
    refine awake_ok.use ?_
    rintro _ h2 ⟨rfl, K2⟩
    simp only [wk, wt, wl, ↓reduceIte, Nat.reduceEqDiff, Nat.reduceAdd, Nat.zero_add, not_false_eq_true, not_true_eq_false]
    all_goals exact K2
  | true =>
    obtain ⟨p1, p2, p3⟩ := small_bd hs0
    by_cases hne : (L.length : Int) = 0
    · simp only [wk, wt, wl, ↓reduceIte, Nat.reduceEqDiff, Nat.reduceAdd, Nat.zero_add, not_false_eq_true, not_true_eq_false, Bool.not_true, LN, decide_eq_true hne]
      refine awake_ok.use ?_
      rintro _ h2 ⟨rfl, K2⟩
      simp only [wk, wt, wl, ↓reduceIte, Nat.reduceEqDiff, Nat.reduceAdd, Nat.zero_add, not_false_eq_true, not_true_eq_false]
      all_goals exact K2
    · simp only [wk, wt, wl, ↓reduceIte, Nat.reduceEqDiff, Nat.reduceAdd, Nat.zero_add, not_false_eq_true, not_true_eq_false, Bool.not_true, LN, decide_eq_false hne]
      refine new_ok.use ?_
      rintro _ h1 ⟨b, r, rfl, M1, K1, hb, hrr⟩
      have S1 : SF h h1 b r (.slice none 0 0) [] [] [] := SF.begin (Keeps.refl H) K1 M1 hb hrr
      have PN := fun {a : Addr} => ptr_some (P := prog) (a := a) underlying26
      have hLne : L ≠ [] := fun e => hne (by rw [e]; rfl)
      obtain ⟨X, hX⟩ : ∃ X, encLs L = X := ⟨_, rfl⟩
      have hge := encLs_ge L
      have p4 : (encLs L).length ≤ 100000000 := Nat.le_trans p3 (by decide)
      simp only [wk, wt, wl, ↓reduceIte, Nat.reduceEqDiff, Nat.reduceAdd, Nat.zero_add, not_false_eq_true, not_true_eq_false, pt, PN]
      refine (S1.write_ok (s := s) (hL.keeps K1) hr p4 (by omega) (by simp)).use ?_
      rintro _ h2 ⟨rfl, fv2, es2, S2, _⟩
      rw [hX] at p3 S2 hge ⊢
      cases hn : nameB s with
      | false =>
        have hz : roomZ [] s X.length = 1 := by unfold roomZ; rw [if_pos hn]
        have hz0 : roomZ [] s X.length ≠ 0 := by rw [hz]; decide
        rw [show numZ (stoE [] [] s X.length) = 1 from by unfold stoE; rw [if_pos hz0, hz]; rfl]
        have d10 : decide (¬ (1 : Int) = 0) = true := rfl
        have d11 : decide ((1 : Int) = 1) = true := rfl
        have K2 := S2.k
        by_cases c1 : (s.size : Int) = 0
        · simp only [wk, wt, wl, ↓reduceIte, Nat.reduceEqDiff, Nat.reduceAdd, Nat.zero_add, not_false_eq_true, not_true_eq_false, d10, d11, slen, decide_eq_true c1]
          refine awake_ok.use ?_
          rintro _ h3 ⟨rfl, K3⟩
          simp only [wk, wt, wl, ↓reduceIte, Nat.reduceEqDiff, Nat.reduceAdd, Nat.zero_add, not_false_eq_true, not_true_eq_false]
          all_goals exact K2.trans K3
        · by_cases c2 : (64 : Int) < s.size
          · simp only [wk, wt, wl, ↓reduceIte, Nat.reduceEqDiff, Nat.reduceAdd, Nat.zero_add, not_false_eq_true, not_true_eq_false, d10, d11, slen, decide_eq_false c1, decide_eq_true c2]
            refine awake_ok.use ?_
            rintro _ h3 ⟨rfl, K3⟩
            simp only [wk, wt, wl, ↓reduceIte, Nat.reduceEqDiff, Nat.reduceAdd, Nat.zero_add, not_false_eq_true, not_true_eq_false]
            all_goals exact K2.trans K3
          · have c3 : 0 ≤ Lib.indexByte s.data.toList 10 := by
              apply Classical.byContradiction
              intro g
              have : nameB s = true := by unfold nameB; exact decide_eq_true ⟨by omega, by omega, g⟩
              rw [hn] at this; cases this
            simp only [wk, wt, wl, ↓reduceIte, Nat.reduceEqDiff, Nat.reduceAdd, Nat.zero_add, not_false_eq_true, not_true_eq_false, d10, d11, slen, decide_eq_false c1, decide_eq_false c2]
            refine (line_ok (s := s) (by omega)).use ?_
            rintro _ _ ⟨t, rfl, ht, rfl⟩
            simp only [wk, wt, wl, ↓reduceIte, Nat.reduceEqDiff, Nat.reduceAdd, Nat.zero_add, not_false_eq_true, not_true_eq_false, str_ne (ht c3)]
            refine awake_ok.use ?_
            rintro _ h3 ⟨rfl, K3⟩
            simp only [wk, wt, wl, ↓reduceIte, Nat.reduceEqDiff, Nat.reduceAdd, Nat.zero_add, not_false_eq_true, not_true_eq_false]
            all_goals exact K2.trans K3
      | true =>
        have hz : roomZ [] s X.length = 0 := by
          unfold roomZ
          rw [if_neg (by rw [hn]; decide), if_neg (by omega), if_neg (fun g => by have := g.2; simp at this)]
        have hE : stoE [] [] s X.length = 0 := by unfold stoE; rw [if_neg (fun g => g hz)]
        rw [show stoF [] [] s X.length = [] from by unfold stoF; rw [if_neg (fun g => g hz)]; rfl, show stoD [] [] s X = [(s, X)] from by unfold stoD; rw [if_pos hE]; rfl] at S2
        rw [hE, show stoN [] [] s X.length = X.length from by unfold stoN; rw [if_neg (fun g => g hz)]]
        have d00 : decide (¬ (0 : Int) = 0) = false := rfl
        simp only [wk, wt, wl, ↓reduceIte, Nat.reduceEqDiff, Nat.reduceAdd, Nat.zero_add, not_false_eq_true, not_true_eq_false, pt, show numZ 0 = 0 from rfl, d00]
        refine (read_ok (s := s) S2.m S2.d).use ?_
        rintro _ h3 ⟨K3, ⟨he, _⟩ | ⟨_, Wd, hd, hcase⟩⟩
        · exact absurd (get_s hn).1 he
        rw [(get_s hn).2] at hd
        have hsum := lines_sum (A := []) hd
        obtain ⟨hbig, _⟩ | ⟨_, mv, rfl, LM⟩ := hcase
        · omega
        have S3 := S2.keeps K3
        simp only [wk, wt, wl, ↓reduceIte, Nat.reduceEqDiff, Nat.reduceAdd, Nat.zero_add, not_false_eq_true, not_true_eq_false, pt]
        refine (S3.bytes_ok (s := s)).use ?_
        rintro _ h4 ⟨bv, rfl, RB, S4, _, _, K4⟩
        rw [(get_s hn).2] at RB
        have LM4 := LM.keeps K4
        have hL4 := hL.keeps S4.k
        have dl : decide (¬ (X.length : Int) = X.length) = false := decide_eq_false fun g => g rfl
        simp only [wk, wt, wl, ↓reduceIte, Nat.reduceEqDiff, Nat.reduceAdd, Nat.zero_add, not_false_eq_true, not_true_eq_false, (get_s hn).1, show numZ 0 = 0 from rfl, d00, Rd.len RB underlying23, dl]
        refine (refRunes_ok hL4 ⟨by omega, by omega⟩).use_pure ?_
        have hrn : runesN L + 1 ≤ X.length := by
          have : 0 < L.length := List.length_pos_iff.2 hLne
          unfold runesN; split <;> omega
        have hr0 : 0 ≤ runesN L := by unfold runesN; split <;> omega
        have w1 : IntKind.i64.wrap (runesN L + 1) = runesN L + 1 := IntWalk.i64_in _ (by omega)
        have dr : decide ((X.length : Int) < runesN L + 1) = false := decide_eq_false (by omega)
        simp only [wk, wt, wl, ↓reduceIte, Nat.reduceEqDiff, Nat.reduceAdd, Nat.zero_add, not_false_eq_true, not_true_eq_false, w1, dr]
        refine (twin_ok hL4 (by omega) (by omega)).use ?_
        rintro ov h5 ⟨W0, hW0, R5, T5, K5⟩
        have KK := S4.k.trans K5
        have LM5 := LM4.keeps K5
        have F0 : FX L 0 0 W0 := by
          have hl : W0.length = L.length := by rw [← hW0]; simp
          exact ⟨hl, fun j => by rw [hW0], fun j a => by rw [hW0, if_neg (by omega)], fun j a g => by omega⟩
        obtain ⟨Bt, hBt⟩ : ∃ Bt, h4.size = Bt := ⟨_, rfl⟩
        rw [hBt] at T5
        have hlt5 : Bt ≤ h5.size := by rw [← hBt]; exact Ch.le K5
        simp only [wk, wt, wl, ↓reduceIte, Nat.reduceEqDiff, Nat.reduceAdd, Nat.zero_add, not_false_eq_true, not_true_eq_false]
        refine W_loop (fun tm h' => Ch (fun y => Bt ≤ y) h4 h' ∧ tm 8 = mv ∧ tm 12 = ov ∧ ∃ (i : Nat) (W : List (Value × List Int)), tm 13 = .int .i64 i ∧ i ≤ L.length ∧ RW Bt h' ov W ∧ FX L i 0 W) (fun tm _ => (L.length - intOf (tm 13)).toNat)
          ⟨K5.mono fun _ e => e.elim, (by first | rfl | (simp only [wk, wt, wl, ↓reduceIte, Nat.reduceEqDiff, Nat.reduceAdd, Nat.zero_add, not_false_eq_true, not_true_eq_false]; done) | (simp only [wk, wt, wl, ↓reduceIte, Nat.reduceEqDiff, Nat.reduceAdd, Nat.zero_add, not_false_eq_true, not_true_eq_false]; rfl)), (by first | rfl | (simp only [wk, wt, wl, ↓reduceIte, Nat.reduceEqDiff, Nat.reduceAdd, Nat.zero_add, not_false_eq_true, not_true_eq_false]; done) | (simp only [wk, wt, wl, ↓reduceIte, Nat.reduceEqDiff, Nat.reduceAdd, Nat.zero_add, not_false_eq_true, not_true_eq_false]; rfl)), 0, W0, (by first | rfl | (simp only [wk, wt, wl, ↓reduceIte, Nat.reduceEqDiff, Nat.reduceAdd, Nat.zero_add, not_false_eq_true, not_true_eq_false]; done) | (simp only [wk, wt, wl, ↓reduceIte, Nat.reduceEqDiff, Nat.reduceAdd, Nat.zero_add, not_false_eq_true, not_true_eq_false]; rfl)), by omega, ⟨R5, T5⟩, F0⟩ ?_
        rintro tm h' ⟨C, t8, t12, i, W, t13, hi, RR, FF⟩
        have KF : Keeps h h' := S4.k.step C fun y hy => by have := Ch.le S4.k; omega
        have LO : abuiltin prog .len #[22] #[ov] = some (.int .i64 W.length) := RR.1.len underlying22
        have hWl := FF.len
        simp only [wk, wt, wl, ↓reduceIte, Nat.reduceEqDiff, Nat.reduceAdd, Nat.zero_add, not_false_eq_true, not_true_eq_false, t12, t13, LO]
        refine condK_dec (fun hd1 => ?_) (fun hd1 => ?_)
        · have hi1 : i < W.length := by omega
          simp only [wk, wt, wl, ↓reduceIte, Nat.reduceEqDiff, Nat.reduceAdd, Nat.zero_add, not_false_eq_true, not_true_eq_false]
          refine W_loop (fun tm h' => Ch (fun y => Bt ≤ y) h4 h' ∧ tm 8 = mv ∧ tm 12 = ov ∧ tm 13 = .int .i64 i ∧ ∃ (k : Nat) (W : List (Value × List Int)), tm 14 = .int .i64 k ∧ k ≤ (L.getD i []).length ∧ RW Bt h' ov W ∧ FX L i k W) (fun tm _ => ((L.getD i []).length - intOf (tm 14)).toNat)
            ⟨C, (by first | rfl | (simp only [wk, wt, wl, ↓reduceIte, Nat.reduceEqDiff, Nat.reduceAdd, Nat.zero_add, not_false_eq_true, not_true_eq_false]; done) | (simp only [wk, wt, wl, ↓reduceIte, Nat.reduceEqDiff, Nat.reduceAdd, Nat.zero_add, not_false_eq_true, not_true_eq_false]; rfl) | (simp only [wk, wt, wl, ↓reduceIte, Nat.reduceEqDiff, Nat.reduceAdd, Nat.zero_add, not_false_eq_true, not_true_eq_false, t8]; done) | (simp only [wk, wt, wl, ↓reduceIte, Nat.reduceEqDiff, Nat.reduceAdd, Nat.zero_add, not_false_eq_true, not_true_eq_false, t8]; rfl)), (by first | rfl | (simp only [wk, wt, wl, ↓reduceIte, Nat.reduceEqDiff, Nat.reduceAdd, Nat.zero_add, not_false_eq_true, not_true_eq_false]; done) | (simp only [wk, wt, wl, ↓reduceIte, Nat.reduceEqDiff, Nat.reduceAdd, Nat.zero_add, not_false_eq_true, not_true_eq_false]; rfl) | (simp only [wk, wt, wl, ↓reduceIte, Nat.reduceEqDiff, Nat.reduceAdd, Nat.zero_add, not_false_eq_true, not_true_eq_false, t12]; done) | (simp only [wk, wt, wl, ↓reduceIte, Nat.reduceEqDiff, Nat.reduceAdd, Nat.zero_add, not_false_eq_true, not_true_eq_false, t12]; rfl)), (by first | rfl | (simp only [wk, wt, wl, ↓reduceIte, Nat.reduceEqDiff, Nat.reduceAdd, Nat.zero_add, not_false_eq_true, not_true_eq_false]; done) | (simp only [wk, wt, wl, ↓reduceIte, Nat.reduceEqDiff, Nat.reduceAdd, Nat.zero_add, not_false_eq_true, not_true_eq_false]; rfl) | (simp only [wk, wt, wl, ↓reduceIte, Nat.reduceEqDiff, Nat.reduceAdd, Nat.zero_add, not_false_eq_true, not_true_eq_false, t13]; done) | (simp only [wk, wt, wl, ↓reduceIte, Nat.reduceEqDiff, Nat.reduceAdd, Nat.zero_add, not_false_eq_true, not_true_eq_false, t13]; rfl)), 0, W, (by first | rfl | (simp only [wk, wt, wl, ↓reduceIte, Nat.reduceEqDiff, Nat.reduceAdd, Nat.zero_add, not_false_eq_true, not_true_eq_false]; done) | (simp only [wk, wt, wl, ↓reduceIte, Nat.reduceEqDiff, Nat.reduceAdd, Nat.zero_add, not_false_eq_true, not_true_eq_false]; rfl)), by omega, RR, FF⟩ ?_
          rintro tm h' ⟨C, t8, t12, t13, k, W, t14, hk, RR, FF⟩
          have KF : Keeps h h' := S4.k.step C fun y hy => by have := Ch.le S4.k; omega
          have hWl := FF.len
          have hi1 : i < W.length := by omega
          have hkb : (L.getD i []).length ≤ lenS L := by have := lenS_at (show i < L.length by omega); omega
          obtain ⟨⟨v, l⟩, hvl⟩ : ∃ p, W[i]? = some p := ⟨W[i], List.getElem?_eq_getElem hi1⟩
          have R1 : RdI prog h' .i32 v l := (RR.2.2.1 _ (List.mem_of_getElem? hvl)).1.1
          have hl : l.length = (L.getD i []).length := by
            have := FF.each i
            rwa [show (W.map (·.2)).getD i [] = l by simp [List.getD, hvl]] at this
          have IO := RR.1.index underlying22 asz47 (q := .i64) (i := (i : Int)) (by omega) (by omega)
          have AO := RR.1.at0 (t := 47) underlying47 rfl hi1 (by decide)
          simp only [Int.toNat_natCast] at IO
          rw [Nat.mul_one, show (W.map (·.1))[i]? = some v by simp [hvl]] at AO
          simp only [wk, wt, wl, ↓reduceIte, Nat.reduceEqDiff, Nat.reduceAdd, Nat.zero_add, not_false_eq_true, not_true_eq_false, t12, t13, t14, IO, AO, R1.len underlying47]
          refine condK_dec (fun hd2 => ?_) (fun hd2 => ?_)
          · have hk1 : k < l.length := by omega
            have IX := RdI.index R1 underlying47 asz21 (q := .i64) (i := (k : Int)) (by omega) (by omega)
            have AX := RdI.at R1 (t := 21) underlying21 rfl hk1
            simp only [Int.toNat_natCast] at IX
            obtain ⟨x, hx⟩ : ∃ x, l.getD k 0 = x := ⟨_, rfl⟩
            rw [hx] at AX
            by_cases h10 : x = 10
            · simp only [wk, wt, wl, ↓reduceIte, Nat.reduceEqDiff, Nat.reduceAdd, Nat.zero_add, not_false_eq_true, not_true_eq_false, t12, t13, t14, IO, AO, IX, AX, decide_eq_true h10]
              refine awake_ok.use ?_
              rintro _ h7 ⟨rfl, K7⟩
              simp only [wk, wt, wl, ↓reduceIte, Nat.reduceEqDiff, Nat.reduceAdd, Nat.zero_add, not_false_eq_true, not_true_eq_false]
              all_goals exact KF.trans K7
            · have hbadput : (x < 0 ∨ 1114111 < x ∨ 55296 ≤ x ∧ x ≤ 57343) → ∃ h2, storeV prog h' 21 (.pointer (some (eltA v 1 k))) (.int .i32 65533) = some (undef, h2) ∧ RW Bt h2 ov (W.set i (v, l.set k 65533)) ∧ Ch (fun y => Bt ≤ y) h4 h2 ∧ FX L i (k + 1) (W.set i (v, l.set k 65533)) := fun hbad => by
                obtain ⟨h2, e2, R2, C2⟩ := RR.put (Ch.wf C) hvl hk1 (x := 65533)
                obtain ⟨G, _⟩ := FF.step hvl hk1 (by rw [hx]; exact h10)
                rw [hx, fix_bad hbad] at G
                exact ⟨h2, e2, R2, C.then C2 fun y hy => .inr hy, G⟩
              by_cases c1 : x < 0
              · obtain ⟨h2, e2, R2, C2, G⟩ := hbadput (.inl c1)
                simp only [wk, wt, wl, ↓reduceIte, Nat.reduceEqDiff, Nat.reduceAdd, Nat.zero_add, not_false_eq_true, not_true_eq_false, t12, t13, t14, IO, AO, IX, AX, decide_eq_false h10, decide_eq_true c1, e2]
                simp (disch := omega) only [wk, wt, wl, ↓reduceIte, Nat.reduceEqDiff, Nat.reduceAdd, Nat.zero_add, not_false_eq_true, not_true_eq_false, t8, t12, t13, t14, IntWalk.i64_in, intOf_int]
                all_goals exact ⟨⟨C2, k + 1, _, by simp, by omega, R2, G⟩, by omega⟩
              · by_cases c2 : (1114111 : Int) < x
                · obtain ⟨h2, e2, R2, C2, G⟩ := hbadput (.inr (.inl c2))
                  simp only [wk, wt, wl, ↓reduceIte, Nat.reduceEqDiff, Nat.reduceAdd, Nat.zero_add, not_false_eq_true, not_true_eq_false, t12, t13, t14, IO, AO, IX, AX, decide_eq_false h10, decide_eq_false c1, decide_eq_true c2, e2]
                  simp (disch := omega) only [wk, wt, wl, ↓reduceIte, Nat.reduceEqDiff, Nat.reduceAdd, Nat.zero_add, not_false_eq_true, not_true_eq_false, t8, t12, t13, t14, IntWalk.i64_in, intOf_int]
                  all_goals exact ⟨⟨C2, k + 1, _, by simp, by omega, R2, G⟩, by omega⟩
                · by_cases c3 : (55296 : Int) ≤ x
                  · by_cases c4 : x ≤ 57343
                    · obtain ⟨h2, e2, R2, C2, G⟩ := hbadput (.inr (.inr ⟨c3, c4⟩))
                      simp only [wk, wt, wl, ↓reduceIte, Nat.reduceEqDiff, Nat.reduceAdd, Nat.zero_add, not_false_eq_true, not_true_eq_false, t12, t13, t14, IO, AO, IX, AX, decide_eq_false h10, decide_eq_false c1, decide_eq_false c2, decide_eq_true c3, decide_eq_true c4, e2]
                      simp (disch := omega) only [wk, wt, wl, ↓reduceIte, Nat.reduceEqDiff, Nat.reduceAdd, Nat.zero_add, not_false_eq_true, not_true_eq_false, t8, t12, t13, t14, IntWalk.i64_in, intOf_int]
                      all_goals exact ⟨⟨C2, k + 1, _, by simp, by omega, R2, G⟩, by omega⟩
                    · have G := FF.same hvl hk1 (by rw [hx]; exact h10) (by rw [hx]; exact fix_good (by omega))
                      simp only [wk, wt, wl, ↓reduceIte, Nat.reduceEqDiff, Nat.reduceAdd, Nat.zero_add, not_false_eq_true, not_true_eq_false, t12, t13, t14, IO, AO, IX, AX, decide_eq_false h10, decide_eq_false c1, decide_eq_false c2, decide_eq_true c3, decide_eq_false c4]
                      simp (disch := omega) only [wk, wt, wl, ↓reduceIte, Nat.reduceEqDiff, Nat.reduceAdd, Nat.zero_add, not_false_eq_true, not_true_eq_false, t8, t12, t13, t14, IntWalk.i64_in, intOf_int]
                      all_goals exact ⟨⟨C, k + 1, W, by simp, by omega, RR, G⟩, by omega⟩
                  · have G := FF.same hvl hk1 (by rw [hx]; exact h10) (by rw [hx]; exact fix_good (by omega))
                    simp only [wk, wt, wl, ↓reduceIte, Nat.reduceEqDiff, Nat.reduceAdd, Nat.zero_add, not_false_eq_true, not_true_eq_false, t12, t13, t14, IO, AO, IX, AX, decide_eq_false h10, decide_eq_false c1, decide_eq_false c2, decide_eq_false c3]
                    simp (disch := omega) only [wk, wt, wl, ↓reduceIte, Nat.reduceEqDiff, Nat.reduceAdd, Nat.zero_add, not_false_eq_true, not_true_eq_false, t8, t12, t13, t14, IntWalk.i64_in, intOf_int]
                    all_goals exact ⟨⟨C, k + 1, W, by simp, by omega, RR, G⟩, by omega⟩
          · have G := FF.next (by omega)
            simp (disch := omega) only [wk, wt, wl, ↓reduceIte, Nat.reduceEqDiff, Nat.reduceAdd, Nat.zero_add, not_false_eq_true, not_true_eq_false, t8, t12, t13, IntWalk.i64_in, intOf_int]
            all_goals exact ⟨⟨C, i + 1, W, by simp, by omega, RR, G⟩, by omega⟩
        · have hfin := FF.fin (by omega)
          have hLR := RR.lr
          rw [hfin.1] at hLR
          have hWd := lines_back hLne hfin.2 (by rw [hX]; exact hd)
          subst hWd
          have LM6 : LR h' mv (L.map (·.map fixR)) := by
            obtain ⟨vs, g1, g2⟩ := LM4
            refine ⟨vs, C.rd g1 fun z e d => ?_, fun j hj => ?_⟩
            · have := (g1.blk_lt e).1; omega
            · obtain ⟨g3, g4⟩ := g2 j hj
              exact ⟨C.rd g3 fun z e d => by have := (g3.blk_lt e).1; omega, g4⟩
          simp only [wk, wt, wl, ↓reduceIte, Nat.reduceEqDiff, Nat.reduceAdd, Nat.zero_add, not_false_eq_true, not_true_eq_false, t8, t12]
          refine (refSame_ok LM6 hLR (fun i => ?_) (by simp; omega)).use_pure ?_
          · have hj : ∀ A : List (List Int), (A.getD i []).length ≤ lenS A := fun A => by
              by_cases g : i < A.length
              · have := lenS_at g; omega
              · rw [List.getD_eq_getElem?_getD, List.getElem?_eq_none (by omega)]; exact Nat.zero_le _
            have h1 := hj (L.map (·.map fixR))
            have h2 : lenS (L.map (·.map fixR)) = lenS L := by simp [lenS, Function.comp_def]
            omega
          simp only [wk, wt, wl, ↓reduceIte, Nat.reduceEqDiff, Nat.reduceAdd, Nat.zero_add, not_false_eq_true, not_true_eq_false, decide_true]
          refine awake_ok.use ?_
          rintro _ h7 ⟨rfl, K7⟩
          simp only [wk, wt, wl, ↓reduceIte, Nat.reduceEqDiff, Nat.reduceAdd, Nat.zero_add, not_false_eq_true, not_true_eq_false]
          all_goals exact KF.trans K7
end Go.Proofs.YtiebaefhlacekaaDoor.Am
end
