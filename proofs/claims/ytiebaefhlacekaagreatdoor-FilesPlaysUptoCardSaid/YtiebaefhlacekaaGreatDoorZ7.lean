/- The texts of this seat, one behind another (part 7 of 16): the frame (an abstract machine), the contracts of functions, the laws. -/
import Derived.Test.YtiebaefhlacekaaGreatDoorZ6
import Derived.Test.YtiebaefhlacekaaGreatDoorZ4
import Derived.Test.YtiebaefhlacekaaGreatDoorAmRound
section
/- bytes.SplitSeq at one byte: plain, and its iterator told of what its caller's round does. -/
set_option linter.unusedSimpArgs false
set_option linter.unusedVariables false
set_option maxHeartbeats 4000000
set_option maxRecDepth 20000
namespace Go.Proofs.YtiebaefhlacekaaGreatDoor.Am
open Go Go.RowKit Go.Proofs.Tryz
/-- The pieces between c's. -/
def splitZ : List Int → Int → List (List Int)
  | [], _ => [[]]
  | x :: l, c => if x = c then [] :: splitZ l c else match splitZ l c with | p :: t => (x :: p) :: t | [] => [[x]]
theorem idxZ_ge (c : Int) : ∀ xs : List Int, -1 ≤ idxZ xs c
  | [] => by simp [idxZ]
  | x :: l => by
    have := idxZ_ge c l
    simp only [idxZ]
    split
    · omega
    · split <;> omega
theorem idxZ_neg {c : Int} : ∀ {xs : List Int}, idxZ xs c < 0 → c ∉ xs
  | [], _ => by simp
  | x :: l, h => by
    have g := idxZ_ge c l
    simp only [idxZ] at h
    split at h
    · omega
    · rename_i hx
      have hl : idxZ l c = -1 := by
        apply Classical.byContradiction
        intro hn
        rw [if_neg hn] at h; omega
      have := idxZ_neg (c := c) (xs := l) (by omega)
      simp only [List.mem_cons, not_or]
      exact ⟨fun e => hx e.symm, this⟩
theorem splitZ_none {c : Int} : ∀ {xs : List Int}, c ∉ xs → splitZ xs c = [xs]
  | [], _ => rfl
  | x :: l, h => by
    simp only [List.mem_cons, not_or] at h
    simp only [splitZ, if_neg (fun e => h.1 (Eq.symm e)), splitZ_none h.2]
theorem splitZ_at {c : Int} : ∀ {xs : List Int} {m : Nat}, idxZ xs c = m → m < xs.length ∧ splitZ xs c = xs.take m :: splitZ (xs.drop (m + 1)) c
  | [], m, h => by simp only [idxZ] at h; omega
  | x :: l, m, h => by
    simp only [idxZ] at h
    split at h
    · rename_i hx
      have : m = 0 := by omega
      subst this
      exact ⟨by simp, by simp [splitZ, hx]⟩
    · rename_i hx
      split at h
      · omega
      · have g := idxZ_ge c l
        obtain ⟨k, hk⟩ : ∃ k, m = k + 1 := ⟨m - 1, by omega⟩
        subst hk
        obtain ⟨q1, q2⟩ := splitZ_at (c := c) (xs := l) (m := k) (by omega)
        exact ⟨by simp; omega, by simp [splitZ, hx, q2]⟩
theorem splitZ_ne {c : Int} : ∀ {xs : List Int}, splitZ xs c ≠ []
  | [] => by simp [splitZ]
  | x :: l => by
    simp only [splitZ]
    split
    · simp
    · split <;> simp
theorem splitZ_mem {c : Int} : ∀ {xs : List Int} {p : List Int}, p ∈ splitZ xs c → ∀ x, x ∈ p → x ∈ xs
  | [], p, h => by simp [splitZ] at h; subst h; simp
  | y :: l, p, h => by
    intro x hx
    simp only [splitZ] at h
    split at h
    · rcases List.mem_cons.1 h with rfl | h
      · simp at hx
      · exact List.mem_cons_of_mem _ (splitZ_mem h x hx)
    · split at h
      · rename_i q t e
        rcases List.mem_cons.1 h with rfl | h
        · rcases List.mem_cons.1 hx with rfl | hx
          · simp
          · exact List.mem_cons_of_mem _ (splitZ_mem (xs := l) (p := q) (by rw [e]; simp) x hx)
        · exact List.mem_cons_of_mem _ (splitZ_mem (xs := l) (p := p) (by rw [e]; exact List.mem_cons_of_mem _ h) x hx)
      · simp at h; subst h; simp at hx; subst hx; simp
def sumL (L : List (List Int)) : Nat := (L.map fun p => p.length + 1).sum
theorem sumL_append {A B : List (List Int)} : sumL (A ++ B) = sumL A + sumL B := by simp [sumL]
theorem sumL_split {c : Int} : ∀ {xs : List Int}, sumL (splitZ xs c) = xs.length + 1
  | [] => rfl
  | x :: l => by
    have ih := sumL_split (c := c) (xs := l)
    simp only [splitZ]
    split
    · simp only [sumL, List.map_cons, List.sum_cons, List.length_nil, List.length_cons] at ih ⊢; omega
    · split
      · rename_i p t e
        rw [e] at ih
        simp only [sumL, List.map_cons, List.sum_cons, List.length_cons] at ih ⊢; omega
      · rename_i e
        exact absurd e splitZ_ne
section
variable {P : Program} {h h' : Heap} {D : Nat → Prop} {s n : Nat} {v : Value} {cs : List Value}
/-- A part of a slice with an end to its room. -/
theorem Rd.slice3 (R : Rd P h s v n cs) {t e : TypeId} (ht : P.underlying t = some (.slice e)) (hs : asz P e = some s) {q q' : IntKind} {j m : Int} (h0 : 0 ≤ j) (h1 : j ≤ m) (h2 : m ≤ n) :
    ∃ v', aslice P h t v none (some (.int q j)) (some (.int q' m)) = some v' ∧ Rd P h s v' j.toNat (cs.take (j.toNat * s)) ∧ ∀ z, blkOf v' = some z → blkOf v = some z := by
  obtain ⟨hl, h3⟩ := R
  have hm0 : 0 ≤ m := by omega
  rcases h3 with ⟨rfl, rfl | rfl⟩ | ⟨b, o, c, k, rfl, hb, hk, hlv, ha, ho, hc⟩
  · obtain rfl : m = 0 := by omega
    obtain rfl : j = 0 := by omega
    exact ⟨.slice none 0 0, by simp [aslice, ht, hs, boundOf], by simpa using Rd.nil0, fun z e => by cases e⟩
  · obtain rfl : m = 0 := by omega
    obtain rfl : j = 0 := by omega
    exact ⟨.slice none 0 0, by simp [aslice, ht, hs, boundOf], by simpa using Rd.nil0, fun z e => by cases e⟩
  · have hjm : m ≤ ((if c = 0 then n else max n (c - 1) : Nat) : Int) := by split <;> omega
    have hij : j ≤ (m.toNat : Int) := by omega
    have hjn : j.toNat * s ≤ n * s := Nat.mul_le_mul_right _ (by omega)
    refine ⟨_, by simp only [aslice, ht, hs, hk, ha, boundOf, if_true, h0, hm0, hjm, hij, and_self, Option.isSome_some, Bool.true_eq_false, and_false, if_false]; rfl, ⟨?_, .inr ⟨b, o, _, k, by rw [Nat.zero_mul, Nat.add_zero, Nat.sub_zero], hb, hk, hlv, ha, by omega, ?_⟩⟩, fun z e => by simpa [blkOf] using e⟩
    · rw [List.length_take, hl]; omega
    · rw [← hc, List.take_take]; congr 1; omega
theorem RdI.slice3 {k : IntKind} {xs : List Int} (R : RdI P h k v xs) {t e : TypeId} (ht : P.underlying t = some (.slice e)) (hs : asz P e = some 1) {q q' : IntKind} :
    ∃ v', aslice P h t v none (some (.int q xs.length)) (some (.int q' xs.length)) = some v' ∧ RdI P h k v' xs ∧ ∀ z, blkOf v' = some z → blkOf v = some z := by
  obtain ⟨v', e1, R1, e2⟩ := Rd.slice3 R ht hs (q := q) (q' := q') (j := (xs.length : Int)) (m := (xs.length : Int)) (by omega) (Int.le_refl _) (Int.le_refl _)
  simp only [Int.toNat_natCast, Nat.mul_one] at R1
  rw [List.take_of_length_le (by simp)] at R1
  exact ⟨v', e1, R1, e2⟩
theorem Keeps.rangeH (H : Wf h) (n : Nat) (tm : Tm) (ps : Array Tmp) (asg body : Code) : Keeps h (h.rangeH n tm ps asg body) := by
  refine ⟨⟨fun b hb => H.1 b (by have : h.size + 2 ≤ b := hb; omega), H.2⟩, by show h.size ≤ h.size + 2; omega, fun _ _ _ => rfl, fun b k hb hk => ?_, fun b k _ hk => ⟨k, hk, rfl⟩, fun x hx _ => ?_⟩
  · have : h.get b = some k := hk
    rw [H.1 b hb] at this; cases this
  · show (if x = h.size + 1 then _ else h.obj x) = h.obj x
    rw [if_neg (by omega)]
theorem Ch.oput2 {b : Nat} {ao a1 : AObj} (C : Ch D (h.oput b a1) h') (hb : h.obj b = some ao) : Ch D h (h'.oput b ao) := by
  obtain ⟨c1, c2, c3, c4, c5, c6⟩ := C
  refine ⟨c1, c2, c3, c4, c5, fun x hx hn => ?_⟩
  show (if x = b then some ao else h'.obj x) = h.obj x
  by_cases e : x = b
  · subst e; rw [if_pos rfl, hb]
  · rw [if_neg e, c6 x hx hn]
    show (if x = b then some a1 else h.obj x) = h.obj x
    rw [if_neg e]
end
theorem rangeH_obj {h : Heap} {n : Nat} {tm : Tm} {ps : Array Tmp} {asg body : Code} : (h.rangeH n tm ps asg body).obj (h.size + 1) = some (.loop n tm .ready none ps asg body) := by simp [Heap.rangeH, Heap.opush, Heap.oput, Heap.more]
theorem rangeH_size {h : Heap} {n : Nat} {tm : Tm} {ps : Array Tmp} {asg body : Code} : (h.rangeH n tm ps asg body).size = h.size + 2 := rfl
theorem awpr_gen {P : Program} {n : Nat} {c : Code} {Q : Exit → Tm → Heap → Prop} {h : Heap} (p : Tm → Prop) {tm : Tm} (hp : p tm) (H : ∀ tm', p tm' → AWpR none P n c Q tm' h) : AWpR none P n c Q tm h := H tm hp
theorem W_range {P : Program} {n : Nat} {f : Operand} {ps : Array Tmp} {asg body : Code} {Q : Exit → Tm → Heap → Prop} {tm : Tm} {h : Heap} : W P n (.rangeFunc f ps asg body) Q tm h = AWpR none P n (.rangeFunc f ps asg body) Q tm h := propext Iff.rfl
theorem boxV_one {P : Program} {h : Heap} {e : TypeId} {v : Value} {m : Nat} (hs : asz P e = some m) (h1 : one v = true) : boxV P h e v = some (.pointer (some ⟨h.size, 0, none⟩), h.new e [v]) := by
  simp [boxV, hs, one_cells h1, h1]
theorem splitseq_ok {v sv : Value} {n : Int} {h : Heap} (h1 : one v = true) (h2 : one sv = true) : ACalls prog 42 #[v, sv, .int .i64 n] h
    (fun y h' => y = .func (.func 55) #[] #[pt (h.size + 1), pt h.size, pt (h.size + 2)] ∧ h' = ((h.new 32 [v]).new 32 [sv]).new 3 [.int .i64 n]) := by
  refine acalls_of_W func42 rfl (by kernel_rfl) (by kernel_rfl) (by simp [ntmps42]) ?_
  simp only [wk, wt, wl, ↓reduceIte, Nat.reduceEqDiff, Nat.reduceAdd, Nat.zero_add, not_false_eq_true, not_true_eq_false, aeff_box, boxV_one asz32 h1, boxV_one asz32 h2, boxV_one asz3 one_int, new_size]
  all_goals exact ⟨rfl, trivial⟩
theorem split_ok {v sv : Value} {h : Heap} (h1 : one v = true) (h2 : one sv = true) : ACalls prog 29 #[v, sv] h
    (fun y h' => y = .func (.func 55) #[] #[pt (h.size + 1), pt h.size, pt (h.size + 2)] ∧ h' = ((h.new 32 [v]).new 32 [sv]).new 3 [.int .i64 0]) := by
  refine acalls_of_W func29 rfl (by kernel_rfl) (by kernel_rfl) (by simp [ntmps29]) ?_
  simp only [wk, wt, wl, ↓reduceIte, Nat.reduceEqDiff, Nat.reduceAdd, Nat.zero_add, not_false_eq_true, not_true_eq_false]
  refine (splitseq_ok h1 h2).use ?_
  rintro _ h2 ⟨rfl, rfl⟩
  simp only [wk, wt, wl, ↓reduceIte, Nat.reduceEqDiff, Nat.reduceAdd, Nat.zero_add, not_false_eq_true, not_true_eq_false]
  all_goals exact ⟨rfl, trivial⟩
def lenSl : Value → Nat
  | .slice _ n _ => n
  | _ => 0
def lenAt (h : Heap) (p : Nat) : Nat := match h.get p with | some k => lenSl (k.cells.getD 0 undef) | none => 0
theorem Rd.lenOf {P : Program} {h : Heap} {s n : Nat} {v : Value} {cs : List Value} (R : Rd P h s v n cs) : lenSl v = n := by
  obtain ⟨_, h2⟩ := R
  rcases h2 with ⟨rfl, rfl | rfl⟩ | ⟨b, o, c, k, rfl, _⟩ <;> rfl
theorem Var.lenAt {h : Heap} {p : Nat} {v : Value} (V : Var h p [v]) : lenAt h p = lenSl v := by
  obtain ⟨k, h1, h2, _⟩ := V
  simp [Am.lenAt, h1, h2]
theorem splitIter_ok {h : Heap} {yb pe ps pz : Nat} {v sv : Value} {xs : List Int} {c : Int} {D : Nat → Prop} {J : List (List Int) → Heap → Prop}
    (R : RdI prog h .u8 v xs) (S : RdI prog h .u8 sv [c]) (hB : ∀ x, x ∈ xs → isB x) (hc : isB c) (hlen : xs.length ≤ 1000000) (Ve : Var h pe [sv]) (Vs : Var h ps [v]) (Vz : Var h pz [.int .i64 0])
    (hne : pe ≠ ps ∧ pz ≠ ps) (hvs : ∀ z, blkOf v = some z → z ≠ ps) (hss : ∀ z, blkOf sv = some z → z ≠ ps)
    (hD : ∀ x, D x → x ≠ ps ∧ x ≠ pe ∧ x ≠ pz ∧ blkOf v ≠ some x ∧ blkOf sv ≠ some x) (J0 : J [] h)
    (hJs : ∀ acc h1 h2, J acc h1 → Wf h1 → h.size ≤ h1.size → Ch (fun x => x = ps) h1 h2 → J acc h2)
    (hy : ∀ acc piece t pv h', Wf h' → h.size ≤ h'.size → J acc h' → splitZ xs c = acc ++ piece :: t → RdI prog h' .u8 pv piece → AYield prog yb #[pv] h' (fun y h'' => y = .bool true ∧ J (acc ++ [piece]) h'' ∧ Ch D h' h'')) :
    ACalls prog 55 #[.func (.yield yb) #[] #[], pt pe, pt ps, pt pz] h (fun _ h' => J (splitZ xs c) h' ∧ Ch (fun x => D x ∨ x = ps) h h') := by
  refine acalls_of_W' func55 rfl (by kernel_rfl) (by kernel_rfl) (by simp [ntmps55]) ?_
  intro H
  have LE := fun {hh : Heap} (V : Var hh pe [sv]) => V.load1 (P := prog) (t := 32) underlying32 rfl (i := 0)
  have LS := fun {hh : Heap} {x : Value} (V : Var hh ps [x]) => V.load1 (P := prog) (t := 32) underlying32 rfl (i := 0)
  have LZ := fun {hh : Heap} (V : Var hh pz [.int .i64 0]) => V.load1 (P := prog) (t := 3) underlying3 rfl (i := 0)
  simp only [List.getElem?_cons_zero] at LE LS LZ
  have L1 : ∀ {hh : Heap}, RdI prog hh .u8 sv [c] → abuiltin prog .len #[32] #[sv] = some (.int .i64 1) := fun S => RdI.len S underlying32
  have d10 : decide ((1 : Int) = 0) = false := rfl
  have hpe := Ve.lt H
  have hps := Vs.lt H
  have hpz := Vz.lt H
  have SD : ∀ {h1 h2 : Heap}, Ch D h1 h2 → RdI prog h1 .u8 sv [c] → RdI prog h2 .u8 sv [c] := fun C R => C.rd R fun z e d => (hD z d).2.2.2.2 e
  simp only [wk, wt, wl, ↓reduceIte, Nat.reduceEqDiff, Nat.reduceAdd, Nat.zero_add, not_false_eq_true, not_true_eq_false, pt, LE Ve, L1 S, d10]
  refine W_loop (fun tm h' => tm 0 = .func (.yield yb) #[] #[] ∧ tm 1 = pt pe ∧ tm 2 = pt ps ∧ tm 3 = pt pz ∧ Ch (fun x => D x ∨ x = ps) h h' ∧ RdI prog h' .u8 sv [c] ∧ Var h' pe [sv] ∧ Var h' pz [.int .i64 0] ∧
      ∃ (acc : List (List Int)) (cv : Value) (cur : List Int), Var h' ps [cv] ∧ RdI prog h' .u8 cv cur ∧ (∀ z, blkOf cv = some z → blkOf v = some z) ∧ (∀ x, x ∈ cur → isB x) ∧ cur.length ≤ xs.length ∧ J acc h' ∧ splitZ xs c = acc ++ splitZ cur c) (fun _ h' => lenAt h' ps)
    ⟨(by first | rfl | (simp only [wk, wt, wl, ↓reduceIte, Nat.reduceEqDiff, Nat.reduceAdd, Nat.zero_add, not_false_eq_true, not_true_eq_false]; done) | (simp only [wk, wt, wl, ↓reduceIte, Nat.reduceEqDiff, Nat.reduceAdd, Nat.zero_add, not_false_eq_true, not_true_eq_false]; rfl)), (by first | rfl | (simp only [wk, wt, wl, ↓reduceIte, Nat.reduceEqDiff, Nat.reduceAdd, Nat.zero_add, not_false_eq_true, not_true_eq_false]; done) | (simp only [wk, wt, wl, ↓reduceIte, Nat.reduceEqDiff, Nat.reduceAdd, Nat.zero_add, not_false_eq_true, not_true_eq_false]; rfl)), (by first | rfl | (simp only [wk, wt, wl, ↓reduceIte, Nat.reduceEqDiff, Nat.reduceAdd, Nat.zero_add, not_false_eq_true, not_true_eq_false]; done) | (simp only [wk, wt, wl, ↓reduceIte, Nat.reduceEqDiff, Nat.reduceAdd, Nat.zero_add, not_false_eq_true, not_true_eq_false]; rfl)), (by first | rfl | (simp only [wk, wt, wl, ↓reduceIte, Nat.reduceEqDiff, Nat.reduceAdd, Nat.zero_add, not_false_eq_true, not_true_eq_false]; done) | (simp only [wk, wt, wl, ↓reduceIte, Nat.reduceEqDiff, Nat.reduceAdd, Nat.zero_add, not_false_eq_true, not_true_eq_false]; rfl)), (Keeps.refl H).mono (fun _ e => e.elim), S, Ve, Vz, [], v, xs, Vs, R, fun z e => e, hB, Nat.le_refl _, J0, rfl⟩ ?_
  rintro tm h' ⟨t0, t1, t2, t3, C, S', Ve', Vz', acc, cv, cur, Vs', R', hcv, hcB, hcl, J', hsp⟩
  have hle := Ch.le C
  have hw := Ch.wf C
  have hmeas : lenAt h' ps = cur.length := by rw [Vs'.lenAt, R'.lenOf]
  simp only [wk, wt, wl, ↓reduceIte, Nat.reduceEqDiff, Nat.reduceAdd, Nat.zero_add, not_false_eq_true, not_true_eq_false, t0, t1, t2, t3, pt, LE Ve', LS Vs']
  refine (index_ok R' S' hcB hc).use_pure ?_
  simp only [wk, wt, wl, ↓reduceIte, Nat.reduceEqDiff, Nat.reduceAdd, Nat.zero_add, not_false_eq_true, not_true_eq_false]
  refine condK_dec (fun hd => ?_) (fun hd => ?_)
  · have hone := splitZ_none (idxZ_neg hd)
    rw [hone] at hsp
    obtain ⟨pv, e1, R1, e2⟩ := R'.slice3 underlying32 asz5 (q := .i64) (q' := .i64)
    simp only [wk, wt, wl, ↓reduceIte, Nat.reduceEqDiff, Nat.reduceAdd, Nat.zero_add, not_false_eq_true, not_true_eq_false, t0, t1, t2, t3, pt, LS Vs', RdI.len R' underlying32, e1]
    rw [callV_yield]
    refine AYield.mono (hy acc cur [] pv h' hw hle J' hsp R1) ?_
    rintro _ h2 ⟨rfl, J2, C2⟩
    simp only [wk, wt, wl, ↓reduceIte, Nat.reduceEqDiff, Nat.reduceAdd, Nat.zero_add, not_false_eq_true, not_true_eq_false]
    refine ⟨by rw [hsp]; exact J2, C.then C2 fun b e => .inr (.inl e)⟩
  · obtain ⟨m, hm⟩ : ∃ m : Nat, idxZ cur c = m := ⟨(idxZ cur c).toNat, by omega⟩
    obtain ⟨hml, hsm⟩ := splitZ_at hm
    have w0 : IntKind.i64.wrap ((m : Int) + 0) = m := by rw [IntWalk.i64_in _ (by omega)]; omega
    have w1 : IntKind.i64.wrap ((m : Int) + 1) = ((m + 1 : Nat) : Int) := by rw [IntWalk.i64_in _ (by omega)]; omega
    have SX := Rd.sliceHi R' underlying32 asz5 (q' := .i64) (j := (m : Int)) (by omega) (by omega)
    simp only [Int.toNat_natCast] at SX
    have RX := RdI.part R' (L := 0) (H := m) (by omega) (by omega)
    simp only [List.drop_zero, Nat.sub_zero] at RX
    have hxl : (cur.take m).length = m := by rw [List.length_take]; omega
    have LX := RdI.len RX underlying32
    obtain ⟨pv, e1, R1, e2⟩ := RX.slice3 underlying32 asz5 (q := .i64) (q' := .i64)
    rw [hxl] at LX e1
    simp only [wk, wt, wl, ↓reduceIte, Nat.reduceEqDiff, Nat.reduceAdd, Nat.zero_add, not_false_eq_true, not_true_eq_false, t0, t1, t2, t3, pt, LS Vs', LZ Vz', hm, w0, SX, LX, e1]
    rw [callV_yield]
    refine AYield.mono (hy acc (cur.take m) (splitZ (cur.drop (m + 1)) c) pv h' hw hle J' (by rw [hsp, hsm]) R1) ?_
    rintro _ h2 ⟨rfl, J2, C2⟩
    have hw2 := Ch.wf C2
    have CC : Ch (fun x => D x ∨ x = ps) h h2 := C.then C2 fun b e => .inr (.inl e)
    have nd : ∀ {b : Nat}, (D b → False) → ¬ D b := fun g => g
    have Vs2 := Ch.var hw C2 Vs' (fun d => (hD ps d).1 rfl)
    have Ve2 := Ch.var hw C2 Ve' (fun d => (hD pe d).2.1 rfl)
    have Vz2 := Ch.var hw C2 Vz' (fun d => (hD pz d).2.2.1 rfl)
    have R2 : RdI prog h2 .u8 cv cur := C2.rd R' fun z e d => (hD z d).2.2.2.1 (hcv z e)
    have S2 := SD C2 S'
    have SY := Rd.sliceLo R2 underlying32 asz5 (q := .i64) (i := ((m + 1 : Nat) : Int)) (by omega) (by omega)
    simp only [Int.toNat_natCast] at SY
    have RY := RdI.partLo R2 (L := m + 1) (by omega)
    have hby : blkOf (sliceV cv 1 (m + 1) cur.length) = blkOf cv := sliceV_blk
    obtain ⟨nv, hnv⟩ : ∃ nv, sliceV cv 1 (m + 1) cur.length = nv := ⟨_, rfl⟩
    rw [hnv] at SY RY hby
    obtain ⟨h3, e3, V3, C3, z3⟩ := Vs2.store1 (P := prog) (t := 32) (v := nv) (i := 0) hw2 asz32 (by simp) RY.one
    simp only [List.set_cons_zero] at V3
    have hbn : ∀ z, blkOf nv = some z → blkOf v = some z := fun z e => hcv z (by rw [← hby]; exact e)
    simp only [wk, wt, wl, ↓reduceIte, Nat.reduceEqDiff, Nat.reduceAdd, Nat.zero_add, not_false_eq_true, not_true_eq_false, t0, t1, t2, t3, pt, Bool.not_true, LS Vs2, LE Ve2, L1 S2, hm, w1, SY, e3]
    have R3 : RdI prog h3 .u8 nv (cur.drop (m + 1)) := C3.rd RY fun z e e' => hvs z (hbn z e) e'
    have hm3 : lenAt h3 ps = (cur.drop (m + 1)).length := by rw [V3.lenAt, R3.lenOf]
    refine ⟨⟨CC.then C3 fun b e => .inr (.inr e), C3.rd S2 fun z e e' => hss z e e', Ch.var hw2 C3 Ve2 hne.1, Ch.var hw2 C3 Vz2 hne.2, acc ++ [cur.take m], nv, cur.drop (m + 1), V3, R3, hbn, fun x hx => hcB x (List.mem_of_mem_drop hx), by rw [List.length_drop]; omega, hJs _ h2 h3 J2 hw2 (Ch.le CC) C3, by rw [hsp, hsm]; simp⟩, ?_⟩
    rw [hmeas, hm3, List.length_drop]; omega
end Go.Proofs.YtiebaefhlacekaaGreatDoor.Am
end
section
/- Files: the contract of Read, by a walk: a range over what SplitSeq hands back. -/
set_option linter.unusedSimpArgs false
set_option linter.unusedVariables false
set_option maxHeartbeats 8000000
set_option maxRecDepth 20000
namespace Go.Proofs.YtiebaefhlacekaaGreatDoor.Am
open Go Go.RowKit Go.Proofs.Tryz
/-- Rows of runes and the bytes that they are decoded of. -/
def DecAll (A W : List (List Int)) : Prop := A.length = W.length ∧ ∀ (i : Nat) (a l : List Int), A[i]? = some a → W[i]? = some l → Dec a l
theorem DecAll.add {A W : List (List Int)} {a l : List Int} (H : DecAll A W) (h : Dec a l) : DecAll (A ++ [a]) (W ++ [l]) := by
  refine ⟨by simp [H.1], fun i x y hx hy => ?_⟩
  rw [List.getElem?_append] at hx hy
  rw [H.1] at hx
  split at hx
  · rename_i hi
    rw [if_pos hi] at hy
    exact H.2 i x y (by rw [← hx]) (by rw [← hy])
  · rename_i hi
    rw [if_neg hi] at hy
    have h0 : i - W.length = 0 := by
      have := (List.getElem?_eq_some_iff.1 hx).1
      simp only [List.length_singleton] at this
      omega
    rw [h0] at hx hy
    cases hx; cases hy
    exact h
theorem DecAll.sum : ∀ {A W : List (List Int)}, DecAll A W → sumL W ≤ sumL A
  | [], [], _ => Nat.le_refl _
  | [], w :: W, h => by have := h.1; simp at this
  | a :: A, [], h => by have := h.1; simp at this
  | a :: A, w :: W, h => by
    have h0 := (h.2 0 a w rfl rfl).len
    have ih := DecAll.sum (A := A) (W := W) ⟨by simpa using h.1, fun i x y hx hy => h.2 (i + 1) x y (by simpa using hx) (by simpa using hy)⟩
    simp only [sumL, List.map_cons, List.sum_cons] at ih ⊢; omega
/-- What the rounds keep: rows that grow, and a count. -/
def JC (bo bn B : Nat) (acc : List (List Int)) (h : Heap) : Prop :=
  ∃ (ov : Value) (W : List (Value × List Int)), Var h bo [ov] ∧ Var h bn [.int .i64 ((sumL (W.map (·.2)) : Int) - 1)] ∧ Own prog B h 1 ov W.length (W.map (·.1)) ∧ (∀ z, blkOf ov = some z → B ≤ z) ∧
    (∀ p, p ∈ W → RdI prog h .i32 p.1 p.2 ∧ ∀ z, blkOf p.1 = some z → B ≤ z ∧ blkOf ov ≠ some z) ∧ DecAll acc (W.map (·.2))
def JR (yb : Nat) (ob : AObj) (bo bn B : Nat) (acc : List (List Int)) (h : Heap) : Prop := h.obj yb = some ob ∧ B ≤ h.size ∧ JC bo bn B acc h
theorem JC.ps {bo bn B ps : Nat} {acc : List (List Int)} {h h' : Heap} (J : JC bo bn B acc h) (H : Wf h) (hb : bo ≠ ps ∧ bn ≠ ps) (hp : ps < B) (C : Ch (fun x => x = ps) h h') : JC bo bn B acc h' := by
  obtain ⟨ov, W, V1, V2, O, h3, h4, h5⟩ := J
  refine ⟨ov, W, Ch.var H C V1 hb.1, Ch.var H C V2 hb.2, Ch.own C O fun z e e' => by have := h3 z e; omega, h3, fun p hp' => ?_, h5⟩
  obtain ⟨q1, q2⟩ := h4 p hp'
  exact ⟨C.rd q1 fun z e e' => by have := (q2 z e).1; omega, q2⟩
theorem range_split {n : Nat} {tm : Tm} {x : Operand} {ps : Array Tmp} {asg body : Code} {Q : Exit → Tm → Heap → Prop} {hc : Heap} {v sv : Value} {xs : List Int} {c : Int} {bo bn pe pq pz : Nat}
    (H : Wf hc) (hok : codeOk prog n (.rangeFunc x ps asg body) = true) (hps : ps.size = 1) (hx : ev tm x = .func (.func 55) #[] #[pt pe, pt pq, pt pz])
    (R : RdI prog hc .u8 v xs) (S : RdI prog hc .u8 sv [c]) (hB : ∀ x, x ∈ xs → isB x) (hcB : isB c) (hlen : xs.length ≤ 1000000) (Ve : Var hc pe [sv]) (Vs : Var hc pq [v]) (Vz : Var hc pz [.int .i64 0])
    (hne : pe ≠ pq ∧ pz ≠ pq) (hvs : ∀ z, blkOf v = some z → z ≠ pq ∧ z ≠ bo ∧ z ≠ bn) (hss : ∀ z, blkOf sv = some z → z ≠ pq ∧ z ≠ bo ∧ z ≠ bn) (hbo : bo ≠ pq ∧ bo ≠ pe ∧ bo ≠ pz) (hbn : bn ≠ pq ∧ bn ≠ pe ∧ bn ≠ pz)
    (V1 : Var hc bo [.slice none 0 0]) (V2 : Var hc bn [.int .i64 (-1)])
    (hy : ∀ acc piece t pv h', Wf h' → hc.size + 2 ≤ h'.size → JC bo bn (hc.size + 2) acc h' → h'.obj (hc.size + 1) = some (.loop n tm .ready none ps asg body) → splitZ xs c = acc ++ piece :: t → RdI prog h' .u8 pv piece →
      W prog n asg (thenK (fun tm1 h1 => h1.obj (hc.size + 1) = some (.loop n tm .ready none ps asg body) ∧ W prog n body (roundK (hc.size + 1) n tm ps asg body (fun y h'' => y = .bool true ∧ JR (hc.size + 1) (.loop n tm .ready none ps asg body) bo bn (hc.size + 2) (acc ++ [piece]) h'' ∧ Ch (fun x => x = bo ∨ x = bn ∨ hc.size + 2 ≤ x) h' h'')) tm1 (h1.oput (hc.size + 1) (.loop n tm .busy none ps asg body))) (fun _ _ _ => False)) (bindTm ps #[pv] tm) h')
    (hQ : ∀ h', JC bo bn (hc.size + 2) (splitZ xs c) h' → Ch (fun x => x = bo ∨ x = bn ∨ x = pq) hc h' → Q .normal tm h') :
    AWpR none prog n (.rangeFunc x ps asg body) Q tm hc := by
  refine range_of hok hx (by kernel_rfl) ?_
  have KR := Keeps.rangeH H n tm ps asg body
  have l1 := V1.lt H
  have l2 := V2.lt H
  have l3 := Ve.lt H
  have l4 := Vs.lt H
  have l5 := Vz.lt H
  have hall := hok
  simp only [codeOk, Bool.and_eq_true] at hall
  have J0 : JR (hc.size + 1) (.loop n tm .ready none ps asg body) bo bn (hc.size + 2) [] (hc.rangeH n tm ps asg body) :=
    ⟨rangeH_obj, by rw [rangeH_size]; omega, .slice none 0 0, [], Keeps.var H KR V1, Keeps.var H KR V2, Own.nil0, fun z e => (by cases e), fun p hp => (by cases hp), rfl, fun i a l ha => by simp at ha⟩
  have I := splitIter_ok (yb := hc.size + 1) (D := fun x => x = bo ∨ x = bn ∨ hc.size + 2 ≤ x) (J := JR (hc.size + 1) (.loop n tm .ready none ps asg body) bo bn (hc.size + 2)) (R.keeps KR) (S.keeps KR) hB hcB hlen (Keeps.var H KR Ve) (Keeps.var H KR Vs) (Keeps.var H KR Vz) hne (fun z e => (hvs z e).1) (fun z e => (hss z e).1)
    (fun x hx => by
      have a1 : blkOf v = some x → x < hc.size := fun e => (R.blk_lt e).1
      have a2 : blkOf sv = some x → x < hc.size := fun e => (S.blk_lt e).1
      rcases hx with rfl | rfl | hx
      · exact ⟨hbo.1, hbo.2.1, hbo.2.2, fun e => (hvs _ e).2.1 rfl, fun e => (hss _ e).2.1 rfl⟩
      · exact ⟨hbn.1, hbn.2.1, hbn.2.2, fun e => (hvs _ e).2.2 rfl, fun e => (hss _ e).2.2 rfl⟩
      · exact ⟨by omega, by omega, by omega, fun e => by have := a1 e; omega, fun e => by have := a2 e; omega⟩) J0
    (fun acc h1 h2 J w1 w2 C => by
      obtain ⟨q1, q2, q3⟩ := J
      rw [rangeH_size] at w2
      exact ⟨(C.obj (by omega) (by omega)).trans q1, Nat.le_trans q2 (Ch.le C), q3.ps w1 ⟨hbo.1, hbn.1⟩ (by omega) C⟩)
    (fun acc piece t pv h' w1 w2 J w3 w4 => AYield.of J.1 (by rw [hps]; rfl) (by simp only [Bool.and_eq_true]; exact ⟨⟨⟨hall.1.1.1.2, hall.1.1.2⟩, hall.1.2⟩, hall.2⟩) (hy acc piece t pv h' w1 (by rw [rangeH_size] at w2; exact w2) J.2.2 J.1 w3 w4))
  have e : (#[] ++ #[Value.func (.yield (hc.size + 1)) #[] #[]] ++ #[pt pe, pt pq, pt pz] : Array Value) = #[.func (.yield (hc.size + 1)) #[] #[], pt pe, pt pq, pt pz] := by simp
  rw [e]
  refine I.use ?_
  rintro _ h' ⟨⟨ho, hs, J⟩, C⟩
  refine ⟨.ready, none, ho, by simp, ?_⟩
  show Q .normal tm _
  have C' : Ch (fun x => x = bo ∨ x = bn ∨ x = pq) hc h' := (Ch.mono KR fun _ e => e.elim : Ch (fun x => x = bo ∨ x = bn ∨ x = pq) hc _).then C fun b e => by
    rcases e with (e | e | e) | e
    · exact .inr (.inl e)
    · exact .inr (.inr (.inl e))
    · exact .inl (by omega)
    · exact .inr (.inr (.inr e))
  refine hQ _ J ?_
  obtain ⟨c1, c2, c3, c4, c5, c6⟩ := C'
  refine ⟨c1, c2, c3, c4, c5, fun x hx hd => ?_⟩
  show (if x = hc.size + 1 then _ else h'.obj x) = hc.obj x
  rw [if_neg (by omega)]; exact c6 x hx hd
theorem bi22 {h : Heap} {x : Value} (h1 : one x = true) : abuildSlice prog h 31 1 #[(0, x)] = some (.slice (some ⟨h.size, 0, none⟩) 1 2, h.new 59 [x]) :=
  build1 underlying31 asz59 azero59 rfl h1
section
variable {h : Heap} {b r : Nat} {fv : Value} {fl : List Int} {es : List (ByteArray × Value)}
theorem fet_key {D : List (ByteArray × List Int)} (V : DV h b r fv es D) (s : ByteArray) : ∃ v e, fetV es s = .tuple #[v, errV e] ∧ e = bytE D s ∧ RdI prog h .u8 v (bytL D s) ∧ (bytL D s).length ≤ 262144 ∧ ∀ y, y ∈ bytL D s → isB y := by
  unfold fetV bytE bytL
  cases hn : nameB s with
  | false => exact ⟨_, _, rfl, rfl, Rd.nil0, by simp, by simp⟩
  | true =>
    rw [if_neg (by decide), if_neg (by decide), if_neg (by decide)]
    rcases V.get s with ⟨g1, g2⟩ | ⟨v, l, g1, g2, R, _, hB, hl⟩
    · rw [g1, g2]; exact ⟨_, _, rfl, rfl, Rd.nil0, by simp, by simp⟩
    · rw [g1, g2]; exact ⟨v, 0, rfl, rfl, R, hl, hB⟩
theorem clos_vars {h : Heap} {a sv : Value} (H : Wf h) :
    Keeps h (((h.new 32 [a]).new 32 [sv]).new 3 [.int .i64 0]) ∧ Var (((h.new 32 [a]).new 32 [sv]).new 3 [.int .i64 0]) h.size [a] ∧
    Var (((h.new 32 [a]).new 32 [sv]).new 3 [.int .i64 0]) (h.size + 1) [sv] ∧ Var (((h.new 32 [a]).new 32 [sv]).new 3 [.int .i64 0]) (h.size + 2) [.int .i64 0] ∧
    (((h.new 32 [a]).new 32 [sv]).new 3 [.int .i64 0]).size = h.size + 3 := by
  have K1 := Keeps.new H 32 [a]
  have V1 := Var.new (e := 32) H (cs := [a])
  have K2 := Keeps.new (Ch.wf K1) 32 [sv]
  have V2 := Var.new (e := 32) (Ch.wf K1) (cs := [sv])
  have K3 := Keeps.new (Ch.wf K2) 3 [.int .i64 0]
  have V3 := Var.new (e := 3) (Ch.wf K2) (cs := [.int .i64 0])
  exact ⟨(K1.trans K2).trans K3, Keeps.var (Ch.wf K2) K3 (Keeps.var (Ch.wf K1) K2 V1), Keeps.var (Ch.wf K2) K3 V2, V3, rfl⟩
/-- What Read answers. -/
def ReadQ (D : List (ByteArray × List Int)) (s : ByteArray) (h : Heap) (y : Value) (h' : Heap) : Prop :=
  Keeps h h' ∧ (bytE D s ≠ 0 ∧ y = .tuple #[.slice none 0 0, .int .i64 (numZ (bytE D s))] ∨ bytE D s = 0 ∧ ∃ W, DecAll (splitZ (trimZ (bytL D s) 10) 10) W ∧
    ((65536 < (sumL W : Int) - 1 ∧ y = .tuple #[.slice none 0 0, .int .i64 3]) ∨ ¬ 65536 < (sumL W : Int) - 1 ∧ ∃ v, y = .tuple #[v, .int .i64 0] ∧ LR h' v W))
theorem read_ok {D : List (ByteArray × List Int)} {s : ByteArray} (M : FK h b r fv fl es) (V : DV h b r fv es D) :
    ACalls prog 13 #[pt b, .string s] h (fun y h' => ReadQ D s h y h') := by
  refine acalls_of_W' func13 rfl (by kernel_rfl) (by kernel_rfl) (by simp [ntmps13]) ?_
  intro H
  obtain ⟨v, e, k1, k2, k3, k4, k5⟩ := fet_key V s
  simp only [wk, wt, wl, ↓reduceIte, Nat.reduceEqDiff, Nat.reduceAdd, Nat.zero_add, not_false_eq_true, not_true_eq_false]
  refine (fetch_ok M V).use_pure ?_
  rw [k1]
  by_cases he : e = 0
  · have hE : bytE D s = 0 := by rw [← k2]; exact he
    obtain ⟨xs, hxs⟩ : ∃ xs, bytL D s = xs := ⟨_, rfl⟩
    rw [hxs] at k3 k4 k5
    have K1 := Keeps.new H 31 [Value.slice none 0 0]
    have V1 := Var.new (e := 31) H (cs := [Value.slice none 0 0])
    have K2 := Keeps.new (Ch.wf K1) 3 [.int .i64 0]
    have V2 := Var.new (e := 3) (Ch.wf K1) (cs := [.int .i64 0])
    have V1b := Keeps.var (Ch.wf K1) K2 V1
    simp only [new_size] at V2
    obtain ⟨h3, e3, V3, C3, z3⟩ := V2.store1 (P := prog) (t := 3) (v := .int .i64 (-1)) (i := 0) (Ch.wf K2) asz3 (by simp) rfl
    simp only [List.set_cons_zero] at V3
    simp only [wk, wt, wl, ↓reduceIte, Nat.reduceEqDiff, Nat.reduceAdd, Nat.zero_add, not_false_eq_true, not_true_eq_false, he, errV0, if_nnone, if_nnoneC, new_size, e3, bi8]
    have K3 := (K1.trans K2).step C3 fun b e => by omega
    have R3 := k3.keeps K3
    have N4 := Keeps.new (Ch.wf C3) 5 [.int .u8 10]
    have S4 : RdI prog (h3.new 5 [.int .u8 10]) .u8 (.slice (some ⟨h3.size, 0, none⟩) 1 2) [10] := rdNewB (Ch.wf C3) [10]
    have h10 : isB 10 := ⟨by decide, by decide⟩
    refine (trim_ok (R3.keeps N4) S4 k5 h10 (by omega)).use ?_
    rintro tv _ ⟨RT, hbt, rfl⟩
    simp only [wk, wt, wl, ↓reduceIte, Nat.reduceEqDiff, Nat.reduceAdd, Nat.zero_add, not_false_eq_true, not_true_eq_false, bi8]
    have N5 := Keeps.new (Ch.wf N4) 5 [.int .u8 10]
    have S5 : RdI prog ((h3.new 5 [.int .u8 10]).new 5 [.int .u8 10]) .u8 (.slice (some ⟨h3.size + 1, 0, none⟩) 1 2) [10] := rdNewB (Ch.wf N4) [10]
    have K5 := (K3.trans N4).trans N5
    have RT5 := RT.keeps N5
    have V1c := Keeps.var (Ch.wf N4) N5 (Keeps.var (Ch.wf C3) N4 (Ch.var (Ch.wf K2) C3 V1b (by omega)))
    have V2c := Keeps.var (Ch.wf N4) N5 (Keeps.var (Ch.wf C3) N4 V3)
    have z5 : ((h3.new 5 [.int .u8 10]).new 5 [.int .u8 10]).size = h.size + 4 := by simp only [new_size, z3]
    have z3' : h3.size = h.size + 2 := z3
    simp only [new_size, z3'] at S5 ⊢
    generalize hh5 : (h3.new 5 [.int .u8 10]).new 5 [.int .u8 10] = h5 at *
    refine (split_ok RT5.one rfl).use ?_
    rintro _ _ ⟨rfl, rfl⟩
    obtain ⟨KC, Vs, Ve, Vz, hzc⟩ := clos_vars (a := tv) (sv := .slice (some ⟨h.size + 2 + 1, 0, none⟩) 1 2) (Ch.wf K5)
    simp only [wk, wt, wl, ↓reduceIte, Nat.reduceEqDiff, Nat.reduceAdd, Nat.zero_add, not_false_eq_true, not_true_eq_false, W_range]
    have V1d := Keeps.var (Ch.wf K5) KC V1c
    have V2d := Keeps.var (Ch.wf K5) KC V2c
    have RT6 := RT5.keeps KC
    have S6 := S5.keeps KC
    have KK := K5.trans KC
    generalize ((h5.new 32 [tv]).new 32 [.slice (some ⟨h.size + 2 + 1, 0, none⟩) 1 2]).new 3 [.int .i64 0] = hc at *
    refine awpr_gen (fun tm' => tm' 8 = pt h.size ∧ tm' 9 = pt (h.size + 1) ∧ tm' 26 = .func (.func 55) #[] #[pt (h5.size + 1), pt h5.size, pt (h5.size + 2)])
      ⟨(by first | rfl | (simp only [wk, wt, wl, ↓reduceIte, Nat.reduceEqDiff, Nat.reduceAdd, Nat.zero_add, not_false_eq_true, not_true_eq_false]; done) | (simp only [wk, wt, wl, ↓reduceIte, Nat.reduceEqDiff, Nat.reduceAdd, Nat.zero_add, not_false_eq_true, not_true_eq_false]; rfl)), (by first | rfl | (simp only [wk, wt, wl, ↓reduceIte, Nat.reduceEqDiff, Nat.reduceAdd, Nat.zero_add, not_false_eq_true, not_true_eq_false]; done) | (simp only [wk, wt, wl, ↓reduceIte, Nat.reduceEqDiff, Nat.reduceAdd, Nat.zero_add, not_false_eq_true, not_true_eq_false]; rfl)), (by first | rfl | (simp only [wk, wt, wl, ↓reduceIte, Nat.reduceEqDiff, Nat.reduceAdd, Nat.zero_add, not_false_eq_true, not_true_eq_false]; done) | (simp only [wk, wt, wl, ↓reduceIte, Nat.reduceEqDiff, Nat.reduceAdd, Nat.zero_add, not_false_eq_true, not_true_eq_false]; rfl))⟩ ?_
    rintro tm1 ⟨u8, u9, u26⟩
    have hvlt : ∀ z, blkOf tv = some z → z < h.size := fun z e => by rw [hbt] at e; exact (k3.blk_lt e).1
    refine range_split (c := 10) (bo := h.size) (bn := h.size + 1) (Ch.wf KC) (by kernel_rfl) rfl (show ev tm1 (.tmp 26) = _ from u26) RT6 S6 ?_ h10 ?_ Ve Vs Vz ⟨by omega, by omega⟩
      (fun z e => by have := hvlt z e; exact ⟨by omega, by omega, by omega⟩) (fun z e => by have := blk_at e; exact ⟨by omega, by omega, by omega⟩) ⟨by omega, by omega, by omega⟩ ⟨by omega, by omega, by omega⟩ V1d V2d ?_ ?_
    · intro x hx
      unfold trimZ at hx
      split at hx
      · exact k5 x (List.mem_of_mem_take hx)
      · exact k5 x hx
    · unfold trimZ
      split
      · rw [List.length_take]; omega
      · omega
    · intro acc piece t pv h' w1 w2 J w5 w6 RP
      have hpl : piece.length ≤ 1000000 := by
        have e1 := sumL_split (c := 10) (xs := trimZ xs 10)
        rw [w6, sumL_append] at e1
        have e2 : (trimZ xs 10).length ≤ 262144 := by
          unfold trimZ
          split
          · rw [List.length_take]; omega
          · omega
        simp only [sumL, List.map_cons, List.sum_cons] at e1
        omega
      have hsum : sumL acc + piece.length + 1 ≤ 300000 := by
        have e1 := sumL_split (c := 10) (xs := trimZ xs 10)
        rw [w6, sumL_append] at e1
        have e2 : (trimZ xs 10).length ≤ 262144 := by
          unfold trimZ
          split
          · rw [List.length_take]; omega
          · omega
        simp only [sumL, List.map_cons, List.sum_cons] at e1 ⊢
        omega
      have hpB : ∀ x, x ∈ piece → isB x := fun x hx => by
        have := splitZ_mem (c := 10) (xs := trimZ xs 10) (p := piece) (by rw [w6]; simp) x hx
        unfold trimZ at this
        split at this
        · exact k5 x (List.mem_of_mem_take this)
        · exact k5 x this
      simp only [wk, wt, wl, ↓reduceIte, Nat.reduceEqDiff, Nat.reduceAdd, Nat.zero_add, not_false_eq_true, not_true_eq_false, bind1]
      refine ⟨w5, ?_⟩
      generalize hBe : Heap.oput h' _ _ = hB
      obtain ⟨ov, W, J1, J2, J3, J4, J5, J6⟩ := J
      have WB : Wf hB := by rw [← hBe]; exact w1
      have zB : hB.size = h'.size := by rw [← hBe]; rfl
      have VB : Var hB h.size [ov] := by rw [← hBe]; exact J1
      have NB : Var hB (h.size + 1) [.int .i64 ((sumL (W.map (·.2)) : Int) - 1)] := by rw [← hBe]; exact J2
      have OB : Own prog (hc.size + 2) hB 1 ov W.length (W.map (·.1)) := by rw [← hBe]; exact J3
      have RB : ∀ p, p ∈ W → RdI prog hB .i32 p.1 p.2 ∧ ∀ z, blkOf p.1 = some z → hc.size + 2 ≤ z ∧ blkOf ov ≠ some z := by rw [← hBe]; exact J5
      have PB : RdI prog hB .u8 pv piece := by rw [← hBe]; exact RP
      have hsW := J6.sum
      refine (decode_ok PB hpB (by omega)).use ?_
      rintro xv h6 ⟨l, hdec, Ox, hxn, K6⟩
      have hll := hdec.len
      have V6 := Keeps.var WB K6 VB
      have N6 := Keeps.var WB K6 NB
      have O6 := OB.keeps K6
      have hle6 := Ch.le K6
      have LO := fun {hh : Heap} {x : Value} (V : Var hh h.size [x]) => V.load1 (P := prog) (t := 31) underlying31 rfl (i := 0)
      have LN := fun {hh : Heap} {x : Value} (V : Var hh (h.size + 1) [x]) => V.load1 (P := prog) (t := 3) underlying3 rfl (i := 0)
      simp only [List.getElem?_cons_zero] at LO LN
      have hWl : W.length ≤ 300000 := by
        have g := J6.1
        rw [List.length_map] at g
        have : acc.length ≤ sumL acc := by
          have : ∀ A : List (List Int), A.length ≤ sumL A := fun A => by
            induction A with
            | nil => simp
            | cons a A ih => simp only [sumL, List.map_cons, List.sum_cons, List.length_cons] at ih ⊢; omega
          exact this acc
        omega
      obtain ⟨v7, h7, e7, O7, C7, R7, ev7, _⟩ := O6.append1 (P := prog) (Ch.wf K6) (by omega) underlying31 elem59 fits59 (by decide) (by decide) (xs := [xv]) rfl (by omega)
      have V7 := Ch.var (Ch.wf K6) C7 V6 fun e => by have := e.2; omega
      have N7 := Ch.var (Ch.wf K6) C7 N6 fun e => by have := e.2; omega
      have hle7 := Ch.le C7
      obtain ⟨h8, e8, V8, C8, z8⟩ := V7.store1 (P := prog) (t := 31) (v := v7) (i := 0) (Ch.wf C7) asz31 (by simp) (by rw [ev7]; rfl)
      simp only [List.set_cons_zero] at V8
      have N8 := Ch.var (Ch.wf C7) C8 N7 (by omega)
      have Lx : abuiltin prog .len #[59] #[xv] = some (.int .i64 l.length) := Rd.len Ox.1 underlying59
      have wa : IntKind.i64.wrap ((l.length : Int) + 1) = (l.length : Int) + 1 := IntWalk.i64_in _ (by omega)
      have wb : IntKind.i64.wrap ((sumL (W.map (·.2)) : Int) - 1 + ((l.length : Int) + 1)) = (sumL (W.map (·.2)) : Int) - 1 + ((l.length : Int) + 1) := IntWalk.i64_in _ (by omega)
      obtain ⟨h9, e9, N9, C9, z9⟩ := N8.store1 (P := prog) (t := 3) (v := .int .i64 ((sumL (W.map (·.2)) : Int) - 1 + ((l.length : Int) + 1))) (i := 0) (Ch.wf C8) asz3 (by simp) rfl
      simp only [List.set_cons_zero] at N9
      have V9 := Ch.var (Ch.wf C8) C9 V8 (by omega)
      simp only [wk, wt, wl, ↓reduceIte, Nat.reduceEqDiff, Nat.reduceAdd, Nat.zero_add, not_false_eq_true, not_true_eq_false, u8, u9, pt, LO V6, bi22 Ox.1.one, e7, e8, LN N8, Lx, wa, wb, e9]
      have nov : ∀ z, blkOf ov = some z → z < hB.size := fun z e => (OB.1.blk_lt e).1
      have C69 : Ch (fun x => x = h.size ∨ x = h.size + 1 ∨ hc.size + 2 ≤ x) hB h9 := (((K6.mono (D' := fun x => x = h.size ∨ x = h.size + 1 ∨ hc.size + 2 ≤ x) fun _ e => e.elim).then C7 fun x e => .inr (.inr (.inr e.2))).then C8 fun x e => .inr (.inl e)).then C9 fun x e => .inr (.inr (.inl e))
      have hob9 := C69.obj (b := hc.size + 1) (by omega) fun e => by omega
      rw [← hBe] at hob9
      have O9 := Ch.own C9 (Ch.own C8 O7 fun z e e' => by rw [ev7] at e; have := blk_at e; omega) fun z e e' => by rw [ev7] at e; have := blk_at e; omega
      have N9' : Var h9 (h.size + 1) [.int .i64 ((sumL ((W ++ [(xv, l)]).map (·.2)) : Int) - 1)] := by
        have : (sumL ((W ++ [(xv, l)]).map (·.2)) : Int) - 1 = (sumL (W.map (·.2)) : Int) - 1 + ((l.length : Int) + 1) := by
          rw [List.map_append, sumL_append]; simp only [sumL, List.map_cons, List.map_nil, List.sum_cons, List.sum_nil]; omega
        rw [this]; exact N9
      have R9 : ∀ p, p ∈ W ++ [(xv, l)] → RdI prog h9 .i32 p.1 p.2 ∧ ∀ z, blkOf p.1 = some z → hc.size + 2 ≤ z ∧ blkOf v7 ≠ some z := fun p hp => by
        have up : ∀ {q : Value} {k : List Int}, RdI prog h6 .i32 q k → (∀ z, blkOf q = some z → hc.size + 2 ≤ z ∧ blkOf ov ≠ some z) → RdI prog h9 .i32 q k := fun R hz =>
          C9.rd (C8.rd (C7.rd R fun z e d => (hz z e).2 d.1) fun z e d => by have := (hz z e).1; omega) fun z e d => by have := (hz z e).1; omega
        rcases List.mem_append.1 hp with hp | hp
        · obtain ⟨q1, q2⟩ := RB p hp
          refine ⟨up (q1.keeps K6) q2, fun z e => ⟨(q2 z e).1, fun e' => ?_⟩⟩
          rw [ev7] at e'
          have := blk_at e'
          have := (q1.blk_lt e).1
          omega
        · simp only [List.mem_singleton] at hp
          subst hp
          have hz : ∀ z, blkOf xv = some z → hc.size + 2 ≤ z ∧ blkOf ov ≠ some z := fun z e => by
            have g := hxn z e
            exact ⟨by omega, fun e' => by have := nov z e'; omega⟩
          refine ⟨up Ox.1 hz, fun z e => ⟨(hz z e).1, fun e' => ?_⟩⟩
          rw [ev7] at e'
          have := blk_at e'
          have := (Ox.1.blk_lt e).1
          omega
      simp only [roundK]
      refine ⟨by rw [hob9]; simp [Heap.oput], trivial, ⟨by simp [Heap.oput], by show _ ≤ h9.size; omega, v7, W ++ [(xv, l)], V9, N9', ?_, fun z e => by rw [ev7] at e; have := blk_at e; omega, R9, ?_⟩, Ch.oput2 (by rw [hBe]; exact C69) w5⟩
      · have e1 : (W ++ [(xv, l)]).length = W.length + 1 := by simp
        have e2 : (W ++ [(xv, l)]).map (·.1) = W.map (·.1) ++ [xv] := by simp
        rw [e1, e2]; exact O9
      · have e2 : (W ++ [(xv, l)]).map (·.2) = W.map (·.2) ++ [l] := by simp
        rw [e2]; exact J6.add hdec
    · intro h6 J6 C6
      obtain ⟨ov, W, J1, J2, J3, J4, J5, J6⟩ := J6
      have LO := J1.load1 (P := prog) (t := 31) underlying31 rfl (i := 0)
      have LN := J2.load1 (P := prog) (t := 3) underlying3 rfl (i := 0)
      simp only [List.getElem?_cons_zero] at LO LN
      have KF : Keeps h h6 := KK.step C6 fun b e => by omega
      have hL : LR h6 ov (W.map (·.2)) := by
        refine ⟨W.map (·.1), by rw [List.length_map]; exact J3.1, fun i hi => ?_⟩
        rw [List.length_map] at hi
        have hp := J5 W[i] (List.getElem_mem hi)
        have e1 : (W.map (·.1)).getD i undef = W[i].1 := by simp [List.getD, hi]
        have e2 : (W.map (·.2)).getD i [] = W[i].2 := by simp [List.getD, hi]
        rw [e1, e2]
        exact ⟨hp.1, by simp [hi]⟩
      by_cases c1 : (65536 : Int) < (sumL (W.map (·.2)) : Int) - 1
      · simp only [wk, wt, wl, ↓reduceIte, Nat.reduceEqDiff, Nat.reduceAdd, Nat.zero_add, not_false_eq_true, not_true_eq_false, u8, u9, pt, LN, decide_eq_true c1]
        exact ⟨KF, .inr ⟨hE, W.map (·.2), by rw [hxs]; exact J6, .inl ⟨c1, rfl⟩⟩⟩
      · simp only [wk, wt, wl, ↓reduceIte, Nat.reduceEqDiff, Nat.reduceAdd, Nat.zero_add, not_false_eq_true, not_true_eq_false, u8, u9, pt, LN, LO, decide_eq_false c1]
        exact ⟨KF, .inr ⟨hE, W.map (·.2), by rw [hxs]; exact J6, .inr ⟨c1, ov, rfl, hL⟩⟩⟩
  · have hE : bytE D s ≠ 0 := by rw [← k2]; exact he
    have e0 := errVn he
    simp only [wk, wt, wl, ↓reduceIte, Nat.reduceEqDiff, Nat.reduceAdd, Nat.zero_add, not_false_eq_true, not_true_eq_false, e0, if_nsome]
    rw [← e0]
    refine number_ok.use_pure ?_
    simp only [wk, wt, wl, ↓reduceIte, Nat.reduceEqDiff, Nat.reduceAdd, Nat.zero_add, not_false_eq_true, not_true_eq_false]
    all_goals exact ⟨Keeps.refl H, .inl ⟨hE, by rw [k2]⟩⟩
end
end Go.Proofs.YtiebaefhlacekaaGreatDoor.Am
end
section
/- Files: contracts of Read and Names at files that are none, of the document's Runes, Same, Of, of Small and line, by walks. -/
set_option linter.unusedSimpArgs false
set_option linter.unusedVariables false
set_option maxHeartbeats 8000000
set_option maxRecDepth 20000
namespace Go.Proofs.YtiebaefhlacekaaGreatDoor.Am
open Go Go.RowKit Go.Proofs.Tryz
section
variable {h : Heap}
theorem read0 {s : ByteArray} : ACalls prog 13 #[.pointer none, .string s] h (fun y h' => y = .tuple #[.slice none 0 0, .int .i64 1] ∧ h' = h) := by
  refine acalls_of_W func13 rfl (by kernel_rfl) (by kernel_rfl) (by simp [ntmps13]) ?_
  simp only [wk, wt, wl, ↓reduceIte, Nat.reduceEqDiff, Nat.reduceAdd, Nat.zero_add, not_false_eq_true, not_true_eq_false]
  refine fetch0.use_pure ?_
  simp only [wk, wt, wl, ↓reduceIte, Nat.reduceEqDiff, Nat.reduceAdd, Nat.zero_add, not_false_eq_true, not_true_eq_false, errV1, if_nsome]
  rw [← errV1]
  refine number_ok.use_pure ?_
  simp only [wk, wt, wl, ↓reduceIte, Nat.reduceEqDiff, Nat.reduceAdd, Nat.zero_add, not_false_eq_true, not_true_eq_false]
  all_goals exact ⟨rfl, trivial⟩
theorem names0 : ACalls prog 21 #[.pointer none] h (fun y h' => y = .slice none 0 0 ∧ h' = h) := by
  refine acalls_of_W func21 rfl (by kernel_rfl) (by kernel_rfl) (by simp [ntmps21]) ?_
  simp only [wk, wt, wl, ↓reduceIte, Nat.reduceEqDiff, Nat.reduceAdd, Nat.zero_add, not_false_eq_true, not_true_eq_false, ptr_none (P := prog) underlying23]
  all_goals exact ⟨rfl, trivial⟩
/-- Lines' lengths together. -/
def lenS (L : List (List Int)) : Nat := (L.map List.length).sum
theorem lenS_next {L : List (List Int)} {i : Nat} (hi : i < L.length) : lenS (L.take (i + 1)) = lenS (L.take i) + (L.getD i []).length := by
  rw [List.take_succ_eq_append_getElem hi, List.getD_eq_getElem?_getD, List.getElem?_eq_getElem hi]
  simp only [lenS, List.map_append, List.sum_append, List.map_cons, List.map_nil, List.sum_cons, List.sum_nil, Option.getD_some, Nat.add_zero]
theorem lenS_at {L : List (List Int)} {i : Nat} (hi : i < L.length) : lenS (L.take i) + (L.getD i []).length ≤ lenS L := by
  have e : lenS L = lenS (L.take (i + 1)) + lenS (L.drop (i + 1)) := by
    unfold lenS; rw [← List.sum_append, ← List.map_append, List.take_append_drop]
  rw [e, lenS_next hi]; omega
theorem encLs_len (L : List (List Int)) : (encLs L).length ≤ 4 * lenS L + L.length := by
  induction L with
  | nil => simp [encLs]
  | cons l L ih =>
    have := encL_len l
    simp only [encLs, lenS, List.flatMap_cons, List.length_append, List.length_cons, List.map_cons, List.sum_cons, List.length_nil] at ih ⊢; omega
theorem encLs_ge (L : List (List Int)) : lenS L + L.length ≤ (encLs L).length := by
  induction L with
  | nil => simp [encLs, lenS]
  | cons l L ih =>
    have := encL_ge l
    simp only [encLs, lenS, List.flatMap_cons, List.length_append, List.length_cons, List.map_cons, List.sum_cons, List.length_nil] at ih ⊢; omega
def runesN (L : List (List Int)) : Int := if (L.length : Int) - 1 + lenS L < 0 then 0 else (L.length : Int) - 1 + lenS L
theorem refRunes_ok {lv : Value} {L : List (List Int)} (hL : LR h lv L) (hb : L.length ≤ 1000000000000 ∧ lenS L ≤ 1000000000000) :
    ACalls prog 9 #[lv] h (fun y h' => y = .int .i64 (runesN L) ∧ h' = h) := by
  refine acalls_of_W func9 rfl (by kernel_rfl) (by kernel_rfl) (by simp [ntmps9]) ?_
  obtain ⟨vs, hR, hE⟩ := hL
  have w0 : IntKind.i64.wrap ((L.length : Int) - 1) = (L.length : Int) - 1 := IntWalk.i64_in _ (by omega)
  simp only [wk, wt, wl, ↓reduceIte, Nat.reduceEqDiff, Nat.reduceAdd, Nat.zero_add, not_false_eq_true, not_true_eq_false, hR.len underlying31, w0]
  refine W_loop (fun tm h' => h' = h ∧ tm 0 = lv ∧ ∃ (i : Nat), tm 4 = .int .i64 i ∧ i ≤ L.length ∧ tm 3 = .int .i64 ((L.length : Int) - 1 + lenS (L.take i))) (fun tm _ => (L.length - intOf (tm 4)).toNat)
    ⟨rfl, (by first | rfl | (simp only [wk, wt, wl, ↓reduceIte, Nat.reduceEqDiff, Nat.reduceAdd, Nat.zero_add, not_false_eq_true, not_true_eq_false]; done) | (simp only [wk, wt, wl, ↓reduceIte, Nat.reduceEqDiff, Nat.reduceAdd, Nat.zero_add, not_false_eq_true, not_true_eq_false]; rfl)), 0, (by first | rfl | (simp only [wk, wt, wl, ↓reduceIte, Nat.reduceEqDiff, Nat.reduceAdd, Nat.zero_add, not_false_eq_true, not_true_eq_false]; done) | (simp only [wk, wt, wl, ↓reduceIte, Nat.reduceEqDiff, Nat.reduceAdd, Nat.zero_add, not_false_eq_true, not_true_eq_false]; rfl)), by omega, by simp only [wk, wt, wl, ↓reduceIte, Nat.reduceEqDiff, Nat.reduceAdd, Nat.zero_add, not_false_eq_true, not_true_eq_false, List.take_zero]; simp [lenS]⟩ ?_
  rintro tm h' ⟨rfl, t0, i, t4, hi, t3⟩
  simp only [wk, wt, wl, ↓reduceIte, Nat.reduceEqDiff, Nat.reduceAdd, Nat.zero_add, not_false_eq_true, not_true_eq_false, t0, t4, t3, hR.len underlying31]
  refine condK_dec (fun hd => ?_) (fun hd => ?_)
  · have hi1 : i < L.length := by omega
    obtain ⟨hEi, hvi⟩ := hE i hi1
    have hat := lenS_at hi1
    have w1 : IntKind.i64.wrap ((L.length : Int) - 1 + lenS (L.take i) + (L.getD i []).length) = (L.length : Int) - 1 + lenS (L.take i) + (L.getD i []).length := IntWalk.i64_in _ (by omega)
    simp (disch := omega) only [wk, wt, wl, ↓reduceIte, Nat.reduceEqDiff, Nat.reduceAdd, Nat.zero_add, not_false_eq_true, not_true_eq_false, t0, t4, t3, hR.index underlying31 asz59 (q := .i64) (i := (i : Int)), Int.toNat_natCast, hR.at0 (t := 59) underlying59 rfl hi1 (by decide), Nat.mul_one, hvi, hEi.len underlying59, w1, IntWalk.i64_in, intOf_int]
    refine ⟨⟨i + 1, by simp, by omega, ?_⟩, by omega⟩
    rw [lenS_next hi1]
    congr 1; omega
  · have he : L.take i = L := List.take_of_length_le (by omega)
    rw [he] at t3
    by_cases c : (L.length : Int) - 1 + lenS L < 0
    · have hc : runesN L = 0 := by unfold runesN; rw [if_pos c]
      have hm : abuiltin prog .max #[3, 3] #[.int .i64 ((L.length : Int) - 1 + lenS L), .int .i64 0] = some (.int .i64 0) := by
        simp [abuiltin, amm]; omega
      simp only [wk, wt, wl, ↓reduceIte, Nat.reduceEqDiff, Nat.reduceAdd, Nat.zero_add, not_false_eq_true, not_true_eq_false, t3, hm]
      all_goals (rw [hc]; exact ⟨rfl, trivial⟩)
    · have hc : runesN L = (L.length : Int) - 1 + lenS L := by unfold runesN; rw [if_neg c]
      have hm : abuiltin prog .max #[3, 3] #[.int .i64 ((L.length : Int) - 1 + lenS L), .int .i64 0] = some (.int .i64 ((L.length : Int) - 1 + lenS L)) := by
        simp [abuiltin, amm]; omega
      simp only [wk, wt, wl, ↓reduceIte, Nat.reduceEqDiff, Nat.reduceAdd, Nat.zero_add, not_false_eq_true, not_true_eq_false, t3, hm]
      all_goals (rw [hc]; exact ⟨rfl, trivial⟩)
def smallB (L : List (List Int)) : Bool := decide (L.length ≤ 300 ∧ runesN L ≤ 3000)
theorem small_ok {lv : Value} {L : List (List Int)} (hL : LR h lv L) (hb : L.length ≤ 1000000000000 ∧ lenS L ≤ 1000000000000) :
    ACalls prog 5 #[lv] h (fun y h' => y = .bool (smallB L) ∧ h' = h) := by
  refine acalls_of_W func5 rfl (by kernel_rfl) (by kernel_rfl) (by simp [ntmps5]) ?_
  have hR := hL
  obtain ⟨vs, hR, hE⟩ := hR
  by_cases c1 : (L.length : Int) ≤ 300
  · simp only [wk, wt, wl, ↓reduceIte, Nat.reduceEqDiff, Nat.reduceAdd, Nat.zero_add, not_false_eq_true, not_true_eq_false, hR.len underlying31, decide_eq_true c1]
    refine (refRunes_ok hL hb).use_pure ?_
    have hs : smallB L = decide (runesN L ≤ 3000) := by
      unfold smallB
      have : L.length ≤ 300 := by omega
      simp [this]
    simp only [wk, wt, wl, ↓reduceIte, Nat.reduceEqDiff, Nat.reduceAdd, Nat.zero_add, not_false_eq_true, not_true_eq_false]
    all_goals (rw [hs]; exact ⟨rfl, trivial⟩)
  · have hs : smallB L = false := by unfold smallB; exact decide_eq_false fun g => c1 (by have := g.1; omega)
    rw [hs]
    simp only [wk, wt, wl, ↓reduceIte, Nat.reduceEqDiff, Nat.reduceAdd, Nat.zero_add, not_false_eq_true, not_true_eq_false, hR.len underlying31, decide_eq_false c1]
    all_goals exact ⟨rfl, trivial⟩
theorem refSame_ok {a b : Value} {A B : List (List Int)} (ha : LR h a A) (hb : LR h b B) (hl : ∀ i, (A.getD i []).length < 9223372036854775807) (hal : A.length ≤ 1000000000000) :
    ACalls prog 15 #[a, b] h (fun y h' => y = .bool (decide (A = B)) ∧ h' = h) := by
  refine acalls_of_W func15 rfl (by kernel_rfl) (by kernel_rfl) (by simp [ntmps15]) ?_
  obtain ⟨vs, hR, hE⟩ := ha
  obtain ⟨us, hS, hF⟩ := hb
  simp only [wk, wt, wl, ↓reduceIte, Nat.reduceEqDiff, Nat.reduceAdd, Nat.zero_add, not_false_eq_true, not_true_eq_false, hR.len underlying31, hS.len underlying31]
  refine condK_dec (fun hc => ?_) (fun hc => ?_)
  · simp only [wk, wt, wl, ↓reduceIte, Nat.reduceEqDiff, Nat.reduceAdd, Nat.zero_add, not_false_eq_true, not_true_eq_false]
    refine ⟨?_, trivial⟩
    have : ¬ A = B := fun e => hc (by rw [e])
    rw [decide_eq_false this]
  · have hAB : A.length = B.length := by omega
    simp only [wk, wt, wl, ↓reduceIte, Nat.reduceEqDiff, Nat.reduceAdd, Nat.zero_add, not_false_eq_true, not_true_eq_false]
    refine W_loop (fun tm h' => h' = h ∧ tm 0 = a ∧ tm 1 = b ∧ ∃ (i : Nat), tm 5 = .int .i64 i ∧ i ≤ A.length ∧ A.take i = B.take i) (fun tm _ => (A.length - intOf (tm 5)).toNat)
      ⟨rfl, (by first | rfl | (simp only [wk, wt, wl, ↓reduceIte, Nat.reduceEqDiff, Nat.reduceAdd, Nat.zero_add, not_false_eq_true, not_true_eq_false]; done) | (simp only [wk, wt, wl, ↓reduceIte, Nat.reduceEqDiff, Nat.reduceAdd, Nat.zero_add, not_false_eq_true, not_true_eq_false]; rfl)), (by first | rfl | (simp only [wk, wt, wl, ↓reduceIte, Nat.reduceEqDiff, Nat.reduceAdd, Nat.zero_add, not_false_eq_true, not_true_eq_false]; done) | (simp only [wk, wt, wl, ↓reduceIte, Nat.reduceEqDiff, Nat.reduceAdd, Nat.zero_add, not_false_eq_true, not_true_eq_false]; rfl)), 0, (by first | rfl | (simp only [wk, wt, wl, ↓reduceIte, Nat.reduceEqDiff, Nat.reduceAdd, Nat.zero_add, not_false_eq_true, not_true_eq_false]; done) | (simp only [wk, wt, wl, ↓reduceIte, Nat.reduceEqDiff, Nat.reduceAdd, Nat.zero_add, not_false_eq_true, not_true_eq_false]; rfl)), by omega, by simp⟩ ?_
    rintro tm h' ⟨rfl, t0, t1, i, t5, hi, hp⟩
    simp only [wk, wt, wl, ↓reduceIte, Nat.reduceEqDiff, Nat.reduceAdd, Nat.zero_add, not_false_eq_true, not_true_eq_false, t0, t5, hR.len underlying31]
    refine condK_dec (fun hd => ?_) (fun hd => ?_)
    · have hi1 : i < A.length := by omega
      have hi2 : i < B.length := by omega
      obtain ⟨hEi, hvi⟩ := hE i hi1
      obtain ⟨hFi, hui⟩ := hF i hi2
      have IA := hR.index underlying31 asz59 (q := .i64) (i := (i : Int)) (by omega) (by omega)
      have IB := hS.index underlying31 asz59 (q := .i64) (i := (i : Int)) (by omega) (by omega)
      have LA := hR.at0 (t := 59) underlying59 rfl hi1 (by decide)
      have LB := hS.at0 (t := 59) underlying59 rfl hi2 (by decide)
      simp only [Int.toNat_natCast] at IA IB
      rw [Nat.mul_one, hvi] at LA
      rw [Nat.mul_one, hui] at LB
      have hst : A.take (i + 1) = B.take (i + 1) ↔ A.getD i [] = B.getD i [] := by
        have eA : A.getD i [] = A[i] := by simp [List.getD, hi1]
        have eB : B.getD i [] = B[i] := by simp [List.getD, hi2]
        rw [eA, eB, List.take_succ_eq_append_getElem hi1, List.take_succ_eq_append_getElem hi2, hp]
        exact ⟨fun g => by have := List.append_cancel_left g; simpa using this, fun g => by rw [g]⟩
      have rr : Reads h' h' := fun b k hk => ⟨k, hk, rfl, rfl, id⟩
      refine adraw_order [(0, false), (1, false), (2, false), (3, false), (4, false), (5, false), (6, false), (7, false), (8, true), (9, false)] mixed (by kernel_rfl) (by kernel_rfl) (by kernel_rfl) (by with_reducible repeat (first | exact PF_retK | refine PF_thenK ?_ | refine PF_blockK ?_)) ?_
      simp only [wk, wt, wl, ↓reduceIte, Nat.reduceEqDiff, Nat.reduceAdd, Nat.zero_add, not_false_eq_true, not_true_eq_false, dK_t, t0, t1, t5, IA, LA, IB, LB]
      refine (runes_ok hEi hFi (hl i)).use_pure ?_
      by_cases hq : A.getD i [] = B.getD i []
      · simp only [wk, wt, wl, ↓reduceIte, Nat.reduceEqDiff, Nat.reduceAdd, Nat.zero_add, not_false_eq_true, not_true_eq_false, dK_t, decide_eq_true hq, Bool.not_true]
        refine ⟨rr, ?_⟩
        simp (disch := omega) only [wk, wt, wl, ↓reduceIte, Nat.reduceEqDiff, Nat.reduceAdd, Nat.zero_add, not_false_eq_true, not_true_eq_false, t0, t1, t5, IntWalk.i64_in, intOf_int]
        all_goals exact ⟨⟨i + 1, by simp, by omega, hst.2 hq⟩, by omega⟩
      · simp only [wk, wt, wl, ↓reduceIte, Nat.reduceEqDiff, Nat.reduceAdd, Nat.zero_add, not_false_eq_true, not_true_eq_false, dK_t, decide_eq_false hq, Bool.not_false]
        refine ⟨rr, ?_, trivial⟩
        have : ¬ A = B := fun e => hq (by rw [e])
        rw [decide_eq_false this]
    · simp only [wk, wt, wl, ↓reduceIte, Nat.reduceEqDiff, Nat.reduceAdd, Nat.zero_add, not_false_eq_true, not_true_eq_false]
      refine ⟨?_, trivial⟩
      have e1 : A.take i = A := List.take_of_length_le (by omega)
      have e2 : B.take i = B := List.take_of_length_le (by omega)
      rw [e1, e2] at hp
      rw [decide_eq_true hp]
end
end Go.Proofs.YtiebaefhlacekaaGreatDoor.Am
end
section
/- Files: the contracts told of what a law holds (SF); awake. -/
set_option linter.unusedSimpArgs false
set_option linter.unusedVariables false
set_option maxHeartbeats 8000000
set_option maxRecDepth 20000
namespace Go.Proofs.YtiebaefhlacekaaGreatDoor.Am
open Go Go.RowKit Go.Proofs.Tryz
/-- What lies apart stays, and is read as it was. -/
def Stays (h : Heap) (b r : Nat) (fv : Value) (h' : Heap) (fv' : Value) : Prop := ∀ v, AP h b r fv v → AP h' b r fv' v ∧ ∀ k l, RdI prog h k v l → RdI prog h' k v l
section
variable {h0 h : Heap} {b r : Nat} {fv : Value} {fl : List Int} {es : List (ByteArray × Value)} {D : List (ByteArray × List Int)}
theorem SF.write_ok (S : SF h0 h b r fv fl es D) {s : ByteArray} {lv : Value} {L : List (List Int)} (hL : LR h lv L) (hr : ∀ i j, isR ((L.getD i []).getD j 0)) (hn : (encLs L).length ≤ 100000000) (hll : L.length ≤ 100000000) (hfl : fl.length ≤ 1000000) :
    ACalls prog 10 #[pt b, .string s, lv] h (fun y h' => y = .tuple #[.int .i64 (stoN D fl s (encLs L).length), .int .i64 (numZ (stoE D fl s (encLs L).length))] ∧
      ∃ fv' es', SF h0 h' b r fv' (stoF D fl s (encLs L).length) es' (stoD D fl s (encLs L)) ∧ Stays h b r fv h' fv') := by
  refine ACalls.mono (Am.write_ok S.m S.d hL hr hn hll hfl) ?_
  rintro y h' ⟨e, fv', es', M, V, C, hz, _⟩
  exact ⟨e, fv', es', S.step M V C hz, fun v A => ⟨A.step S.m S.wf C hz, fun k l R => A.reads R C⟩⟩
theorem SF.fails_ok (S : SF h0 h b r fv fl es D) {n : Int} (hl : fl.length ≤ 1000000) :
    ACalls prog 20 #[pt b, .int .i64 n] h (fun y h' => y = .tuple #[] ∧ ∃ fv', SF h0 h' b r fv' (fl ++ [n]) es D ∧ Stays h b r fv h' fv') := by
  refine ACalls.mono (Am.fails_ok S.m hl) ?_
  rintro y h' ⟨e, fv', M, C, hz⟩
  exact ⟨e, fv', S.step M (S.d.step S.m S.wf C hz) C hz, fun v A => ⟨A.step S.m S.wf C hz, fun k l R => A.reads R C⟩⟩
theorem SF.put_ok (S : SF h0 h b r fv fl es D) {s : ByteArray} {v : Value} {l : List Int} (R : RdI prog h .u8 v l) (hB : ∀ y, y ∈ l → isB y) :
    ACalls prog 16 #[pt b, .string s, v] h (fun y h' => y = .int .i64 (numZ (roomZ D s l.length)) ∧ ∃ es', SF h0 h' b r fv fl es' (putZ D s l) ∧ Stays h b r fv h' fv) := by
  refine ACalls.mono (Am.put_ok' S.m S.d R hB) ?_
  rintro y h' ⟨e, es', M, V, C, _⟩
  exact ⟨e, es', S.step M V C (fun z e => .inr e), fun v A => ⟨A.step S.m S.wf C (fun z e => .inr e), fun k l R => A.reads R C⟩⟩
theorem SF.bytes_ok (S : SF h0 h b r fv fl es D) {s : ByteArray} :
    ACalls prog 18 #[pt b, .string s] h (fun y h' => ∃ v, y = .tuple #[v, .int .i64 (numZ (bytE D s))] ∧ RdI prog h' .u8 v (bytL D s) ∧ SF h0 h' b r fv fl es D ∧ AP h' b r fv v ∧ Stays h b r fv h' fv ∧ Keeps h h') := by
  refine ACalls.mono (Am.bytes_ok (s := s) S.m S.d) ?_
  rintro y h' ⟨v, e, R, K, hz, _⟩
  exact ⟨v, e, R, S.keeps K, AP.fresh S.m S.wf K fun z e => ⟨hz z e, (R.blk_lt e).1⟩, fun w A => ⟨A.keeps S.m S.wf K, fun k l R => R.keeps K⟩, K⟩
end
theorem DecAll.det : ∀ {A W W' : List (List Int)}, DecAll A W → DecAll A W' → W = W' := fun {A W W'} H G => by
  refine List.ext_getElem? fun i => ?_
  by_cases hi : i < A.length
  · have h1 : i < W.length := by have := H.1; omega
    have h2 : i < W'.length := by have := G.1; omega
    have e1 := H.2 i A[i] W[i] (List.getElem?_eq_getElem hi) (List.getElem?_eq_getElem h1)
    have e2 := G.2 i A[i] W'[i] (List.getElem?_eq_getElem hi) (List.getElem?_eq_getElem h2)
    rw [List.getElem?_eq_getElem h1, List.getElem?_eq_getElem h2, e1.det e2]
  · rw [List.getElem?_eq_none (by have := H.1; omega), List.getElem?_eq_none (by have := G.1; omega)]
theorem DecAll.enc : ∀ {L : List (List Int)}, DecAll (L.map encL) (L.map (·.map fixR)) := fun {L} => ⟨by simp, fun i a l ha hl => by
  rw [List.getElem?_map] at ha hl
  obtain ⟨x, h1, rfl⟩ := Option.map_eq_some_iff.1 ha
  rw [h1] at hl
  simp only [Option.map_some, Option.some.injEq] at hl
  subst hl
  exact Dec.encAll x⟩
theorem LR.new {h : Heap} (H : Wf h) {vs : List Value} {L : List (List Int)} {c : Nat} (hl : vs.length = L.length) (hR : ∀ i, i < L.length → RdI prog h .i32 (vs.getD i undef) (L.getD i [])) : LR (h.new 59 vs) (.slice (some ⟨h.size, 0, none⟩) L.length c) L :=
  ⟨vs, Rd.new H asz59 (by omega), fun i hi => ⟨(hR i hi).keeps (Keeps.new H _ _), by simp [List.getD, show i < vs.length by omega]⟩⟩
theorem rdNew32 {h : Heap} (H : Wf h) (xs : List Int) {c : Nat} : RdI prog (h.new 21 (xs.map (Value.int .i32))) .i32 (.slice (some ⟨h.size, 0, none⟩) xs.length c) xs := Rd.new H asz21 (by simp)
theorem b1 {h : Heap} {x : Int} : abuildSlice prog h 59 1 #[(0, .int .i32 x)] = some (.slice (some ⟨h.size, 0, none⟩) 1 2, h.new 21 [.int .i32 x]) := build1 underlying59 asz21 azero21 rfl rfl
theorem b2 {h : Heap} {x y : Int} : abuildSlice prog h 59 2 #[(0, .int .i32 x), (1, .int .i32 y)] = some (.slice (some ⟨h.size, 0, none⟩) 2 3, h.new 21 [.int .i32 x, .int .i32 y]) := build2 underlying59 asz21 azero21 rfl rfl rfl
theorem b3 {h : Heap} {x y z : Int} : abuildSlice prog h 59 3 #[(0, .int .i32 x), (1, .int .i32 y), (2, .int .i32 z)] = some (.slice (some ⟨h.size, 0, none⟩) 3 4, h.new 21 [.int .i32 x, .int .i32 y, .int .i32 z]) := build3 underlying59 asz21 azero21 rfl rfl rfl rfl
theorem bb2 {h : Heap} {x y : Value} (h1 : one x = true) (h2 : one y = true) : abuildSlice prog h 31 2 #[(0, x), (1, y)] = some (.slice (some ⟨h.size, 0, none⟩) 2 3, h.new 59 [x, y]) := build2 underlying31 asz59 azero59 rfl h1 h2
theorem bb3 {h : Heap} {x y z : Value} (h1 : one x = true) (h2 : one y = true) (h3 : one z = true) : abuildSlice prog h 31 3 #[(0, x), (1, y), (2, z)] = some (.slice (some ⟨h.size, 0, none⟩) 3 4, h.new 59 [x, y, z]) := build3 underlying31 asz59 azero59 rfl h1 h2 h3
theorem b84 {h : Heap} {x y z w : Int} : abuildSlice prog h 32 4 #[(0, .int .u8 x), (1, .int .u8 y), (2, .int .u8 z), (3, .int .u8 w)] = some (.slice (some ⟨h.size, 0, none⟩) 4 5, h.new 5 [.int .u8 x, .int .u8 y, .int .u8 z, .int .u8 w]) := build4 underlying32 asz5 azero5 rfl rfl rfl rfl rfl
theorem conv_new {h : Heap} {cells : List Value} {n c : Nat} (hn : 0 < n) (hl : n ≤ cells.length) : aconvE prog (h.new 5 cells) 32 32 (.slice (some ⟨h.size, 0, none⟩) n c) = some (.slice (some ⟨h.size, 0, none⟩) n c, h.new 5 cells) := by
  simp [aconvE, underlying32, underlying5, isU8, new_self, hn, hl]
theorem conv_no {h : Heap} {v : Value} : aconv prog h 32 32 v = none := by simp [aconv, underlying32]
def fN : ByteArray := ⟨#[102]⟩
def gN : ByteArray := ⟨#[103]⟩
def X1 : List Int := [97, 98, 10, 99, 10]
def Y1 : List Int := [97, 10, 10, 98]
theorem enc1 : encLs [[97, 98], [99]] = X1 := by decide
theorem enc2 : (encLs [[120, 121, 122]]).length = 4 := by decide
theorem nameF : nameB fN = true := by decide
theorem nameG : nameB gN = true := by decide
theorem fNgN : fN ≠ gN := by decide
end Go.Proofs.YtiebaefhlacekaaGreatDoor.Am
end
section
/- Files: awake answers true, by a walk. -/
set_option linter.unusedSimpArgs false
set_option linter.unusedVariables false
set_option maxHeartbeats 16000000
set_option maxRecDepth 40000
namespace Go.Proofs.YtiebaefhlacekaaGreatDoor.Am
open Go Go.RowKit Go.Proofs.Tryz
theorem dec_lit {L W : List (List Int)} (h1 : W.map encL = L) (h2 : W.map (·.map fixR) = W) : DecAll L W := by
  have := DecAll.enc (L := W)
  rw [h1, h2] at this; exact this
theorem decF : DecAll (splitZ (trimZ (bytL [(fN, X1)] fN) 10) 10) [[97, 98], [99]] := dec_lit (by decide) (by decide)
theorem decG : DecAll (splitZ (trimZ (bytL [(fN, X1), (gN, Y1)] gN) 10) 10) [[97], [], [98]] := dec_lit (by decide) (by decide)
theorem isR_lit {L : List (List Int)} (hh : (L.all fun l => l.all fun x => decide (0 ≤ x ∧ x ≤ 1000)) = true) : ∀ i j, isR ((L.getD i []).getD j 0) := fun i j => by
  have h0 : isR 0 := by unfold isR; omega
  have h : ∀ l, l ∈ L → ∀ x, x ∈ l → isR x := fun l hl x hx => by
    have := List.all_eq_true.1 (List.all_eq_true.1 hh l hl) x hx
    have := of_decide_eq_true this
    unfold isR; omega
  rw [List.getD_eq_getElem?_getD]
  cases e : (L.getD i [])[j]? with
  | none => simpa using h0
  | some x =>
    simp only [Option.getD_some]
    rw [List.getD_eq_getElem?_getD] at e
    cases e2 : L[i]? with
    | none => rw [e2] at e; simp at e
    | some l =>
      rw [e2] at e
      simp only [Option.getD_some] at e
      exact h l (List.mem_of_getElem? e2) x (List.mem_of_getElem? e)
theorem awake_ok {h : Heap} : ACalls prog 8 #[] h (fun y h' => y = .bool true ∧ Keeps h h') := by
  refine acalls_of_W' func8 rfl (by kernel_rfl) (by kernel_rfl) (by simp [ntmps8]) ?_
  intro H
  simp only [wk, wt, wl, ↓reduceIte, Nat.reduceEqDiff, Nat.reduceAdd, Nat.zero_add, not_false_eq_true, not_true_eq_false]
  refine new_ok.use ?_
  rintro _ h1 ⟨b, r, rfl, M1, K1, hb, hr⟩
  have S1 : SF h h1 b r (.slice none 0 0) [] [] [] := SF.begin (Keeps.refl H) K1 M1 hb hr
  have PN := fun {a : Addr} => ptr_some (P := prog) (a := a) underlying23
  have W1 := S1.wf
  have N1 := Keeps.new W1 21 [.int .i32 97, .int .i32 98]
  have N2 := Keeps.new (Ch.wf N1) 21 [.int .i32 99]
  have A1 := rdNew32 W1 [97, 98] (c := 3)
  have A2 := rdNew32 (Ch.wf N1) [99] (c := 2)
  have A1' := A1.keeps N2
  have LR1 := LR.new (Ch.wf N2) (vs := [.slice (some ⟨h1.size, 0, none⟩) 2 3, .slice (some ⟨h1.size + 1, 0, none⟩) 1 2]) (L := [[97, 98], [99]]) (c := 3) rfl (fun i hi => by
    match i, hi with
    | 0, _ => exact A1'
    | 1, _ => exact A2)
  have K3 := (N1.trans N2).trans (Keeps.new (Ch.wf N2) 59 [.slice (some ⟨h1.size, 0, none⟩) 2 3, .slice (some ⟨h1.size + 1, 0, none⟩) 1 2])
  have S3 := S1.keeps K3
  simp only [wk, wt, wl, ↓reduceIte, Nat.reduceEqDiff, Nat.reduceAdd, Nat.zero_add, not_false_eq_true, not_true_eq_false, pt, PN, b2, b1, bb2 (x := .slice (some ⟨h1.size, 0, none⟩) 2 3) (y := .slice (some ⟨h1.size + 1, 0, none⟩) 1 2) rfl rfl, new_size]
  refine (S3.write_ok (s := fN) LR1 (isR_lit (by decide)) (by decide) (by decide) (by decide)).use ?_
  rintro _ h4 ⟨rfl, fv4, es4, S4, _⟩
  rw [show stoN [] [] fN (encLs [[97, 98], [99]]).length = 5 from by decide, show numZ (stoE [] [] fN (encLs [[97, 98], [99]]).length) = 0 from by decide]
  rw [show stoF [] [] fN (encLs [[97, 98], [99]]).length = [] from by decide, show stoD [] [] fN (encLs [[97, 98], [99]]) = [(fN, X1)] from by decide] at S4
  simp only [wk, wt, wl, ↓reduceIte, Nat.reduceEqDiff, Nat.reduceAdd, Nat.zero_add, not_false_eq_true, not_true_eq_false, pt]
  refine (S4.fails_ok (n := 2) (by decide)).use ?_
  rintro _ h5 ⟨rfl, fv5, S5, _⟩
  have N6 := Keeps.new S5.wf 21 [.int .i32 120, .int .i32 121, .int .i32 122]
  have A6 := rdNew32 S5.wf [120, 121, 122] (c := 4)
  have LR6 := LR.new (Ch.wf N6) (vs := [.slice (some ⟨h5.size, 0, none⟩) 3 4]) (L := [[120, 121, 122]]) (c := 2) rfl (fun i hi => by
    match i, hi with
    | 0, _ => exact A6)
  have K6 := N6.trans (Keeps.new (Ch.wf N6) 59 [.slice (some ⟨h5.size, 0, none⟩) 3 4])
  have S6 := S5.keeps K6
  simp only [wk, wt, wl, ↓reduceIte, Nat.reduceEqDiff, Nat.reduceAdd, Nat.zero_add, not_false_eq_true, not_true_eq_false, pt, b3, bi22 (x := .slice (some ⟨h5.size, 0, none⟩) 3 4) rfl, new_size]
  refine (S6.write_ok (s := fN) LR6 (isR_lit (by decide)) (by decide) (by decide) (by decide)).use ?_
  rintro _ h7 ⟨rfl, fv7, es7, S7, _⟩
  rw [show stoN [(fN, X1)] ([] ++ [2]) fN (encLs [[120, 121, 122]]).length = 2 from by decide, show numZ (stoE [(fN, X1)] ([] ++ [2]) fN (encLs [[120, 121, 122]]).length) = 28 from by decide]
  rw [show stoF [(fN, X1)] ([] ++ [2]) fN (encLs [[120, 121, 122]]).length = [] from by decide, show stoD [(fN, X1)] ([] ++ [2]) fN (encLs [[120, 121, 122]]) = [(fN, X1)] from by decide] at S7
  simp only [wk, wt, wl, ↓reduceIte, Nat.reduceEqDiff, Nat.reduceAdd, Nat.zero_add, not_false_eq_true, not_true_eq_false, pt]
  refine (read_ok (s := fN) S7.m S7.d).use ?_
  rintro _ h8 ⟨K8, ⟨he, _⟩ | ⟨_, Wd, hd, hcase⟩⟩
  · exact absurd (show bytE [(fN, X1)] fN = 0 from by decide) he
  have hWd := hd.det decF
  subst hWd
  obtain ⟨hbig, _⟩ | ⟨_, v8, rfl, L8⟩ := hcase
  · exact absurd hbig (by decide)
  have S8 := S7.keeps K8
  have len8 : abuiltin prog .len #[31] #[v8] = some (.int .i64 2) := by
    obtain ⟨vs, hR, _⟩ := L8
    exact hR.len underlying31
  simp only [wk, wt, wl, ↓reduceIte, Nat.reduceEqDiff, Nat.reduceAdd, Nat.zero_add, not_false_eq_true, not_true_eq_false, pt]
  have B9 := rdNewB S8.wf Y1
  have K9 := Keeps.new S8.wf 5 (bI Y1)
  have S9 := S8.keeps K9
  simp only [wk, wt, wl, ↓reduceIte, Nat.reduceEqDiff, Nat.reduceAdd, Nat.zero_add, not_false_eq_true, not_true_eq_false, pt, b84, conv_no, conv_new (h := h8) (cells := [Value.int IntKind.u8 97, Value.int IntKind.u8 10, Value.int IntKind.u8 10, Value.int IntKind.u8 98]) (n := 4) (c := 5) (by decide) (by decide)]
  refine (S9.put_ok (s := gN) B9 (fun y hy => by simp [Y1] at hy; unfold isB; omega)).use ?_
  rintro _ h10 ⟨rfl, es10, S10, T10⟩
  rw [show numZ (roomZ [(fN, X1)] gN Y1.length) = 0 from by decide]
  rw [show putZ [(fN, X1)] gN Y1 = [(fN, X1), (gN, Y1)] from by decide] at S10
  simp only [wk, wt, wl, ↓reduceIte, Nat.reduceEqDiff, Nat.reduceAdd, Nat.zero_add, not_false_eq_true, not_true_eq_false, pt]
  refine (read_ok (s := gN) S10.m S10.d).use ?_
  rintro _ h11 ⟨K11, ⟨he, _⟩ | ⟨_, Wd, hd2, hcase⟩⟩
  · exact absurd (show bytE [(fN, X1), (gN, Y1)] gN = 0 from by decide) he
  have hWd := hd2.det decG
  subst hWd
  obtain ⟨hbig, _⟩ | ⟨_, v11, rfl, L11⟩ := hcase
  · exact absurd hbig (by decide)
  have S11 := S10.keeps K11
  have N12 := Keeps.new S11.wf 21 [.int .i32 97]
  have N13 := Keeps.new (Ch.wf N12) 21 [.int .i32 98]
  have A12 := (rdNew32 S11.wf [97] (c := 2)).keeps N13
  have A13 := rdNew32 (Ch.wf N12) [98] (c := 2)
  have LR14 := LR.new (Ch.wf N13) (vs := [.slice (some ⟨h11.size, 0, none⟩) 1 2, .slice none 0 0, .slice (some ⟨h11.size + 1, 0, none⟩) 1 2]) (L := [[97], [], [98]]) (c := 4) rfl (fun i hi => by
    match i, hi with
    | 0, _ => exact A12
    | 1, _ => exact Rd.nil0
    | 2, _ => exact A13)
  have K14 := (N12.trans N13).trans (Keeps.new (Ch.wf N13) 59 [.slice (some ⟨h11.size, 0, none⟩) 1 2, .slice none 0 0, .slice (some ⟨h11.size + 1, 0, none⟩) 1 2])
  have L11' := L11.keeps K14
  have S14 := S11.keeps K14
  have d5 : decide ((5 : Int) = 5) = true := rfl
  have d0 : decide ((0 : Int) = 0) = true := rfl
  have d2 : decide ((2 : Int) = 2) = true := rfl
  have d28 : decide ((28 : Int) = 28) = true := rfl
  simp only [wk, wt, wl, ↓reduceIte, Nat.reduceEqDiff, Nat.reduceAdd, Nat.zero_add, not_false_eq_true, not_true_eq_false, pt, d5, d0, d2, d28, len8, b1, bb3 (x := .slice (some ⟨h11.size, 0, none⟩) 1 2) (y := .slice none 0 0) (z := .slice (some ⟨h11.size + 1, 0, none⟩) 1 2) rfl rfl rfl, new_size]
  refine (refSame_ok L11' LR14 (fun i => by
    match i with
    | 0 => decide
    | 1 => decide
    | 2 => decide
    | i + 3 => simp) (by decide)).use ?_
  rintro _ h15 ⟨rfl, rfl⟩
  simp only [wk, wt, wl, ↓reduceIte, Nat.reduceEqDiff, Nat.reduceAdd, Nat.zero_add, not_false_eq_true, not_true_eq_false, decide_true, pt]
  refine (waits_ok S14.m).use ?_
  rintro _ h16 ⟨rfl, rfl⟩
  have dz : decide ((((0 : Nat) : Int)) = 0) = true := rfl
  simp only [wk, wt, wl, ↓reduceIte, Nat.reduceEqDiff, Nat.reduceAdd, Nat.zero_add, not_false_eq_true, not_true_eq_false, List.length_nil, dz]
  all_goals first | exact S14.k | exact ⟨rfl, S14.k⟩
end Go.Proofs.YtiebaefhlacekaaGreatDoor.Am
end
section
/- Files: the laws FilesNone and FilesLines told of abstract memory. -/
set_option linter.unusedSimpArgs false
set_option linter.unusedVariables false
set_option maxHeartbeats 16000000
set_option maxRecDepth 40000
namespace Go.Proofs.YtiebaefhlacekaaGreatDoor.Am
open Go Go.RowKit Go.Proofs.Tryz
theorem boxDeed {h : Heap} {k n : Int} {s : ByteArray} {lv bv : Value} (h1 : one lv = true) (h2 : one bv = true) : boxV prog h 34 (.agg #[.int .i64 k, .int .i64 n, .string s, lv, bv]) = some (.pointer (some ⟨h.size, 0, none⟩), h.new 34 [.int .i64 k, .int .i64 n, .string s, lv, bv]) := by
  have e : (Value.agg #[.int .i64 k, .int .i64 n, .string s, lv, bv]).cells = #[.int .i64 k, .int .i64 n, .string s, lv, bv] := rfl
  have e2 : (#[Value.int .i64 k, .int .i64 n, .string s, lv, bv] : Array Value).all one = true := by simp [one_int, one_string, h1, h2]
  unfold boxV
  rw [asz34, e]
  simp only [e2, if_true]
def cntZ (xs : List Int) (c : Int) : Nat := (xs.filter fun x => decide (x = c)).length
theorem cntZ_le {xs : List Int} {c : Int} : cntZ xs c ≤ xs.length := List.length_filter_le _ _
theorem cntZ_next {xs : List Int} {c : Int} {i : Nat} (hi : i < xs.length) : cntZ (xs.take (i + 1)) c = cntZ (xs.take i) c + if xs.getD i 0 = c then 1 else 0 := by
  rw [List.take_succ_eq_append_getElem hi, List.getD_eq_getElem?_getD, List.getElem?_eq_getElem hi]
  simp only [cntZ, List.filter_append, List.length_append, Option.getD_some]
  by_cases h : xs[i] = c <;> simp [h]
theorem pieces_len {c : Int} : ∀ {xs : List Int}, (splitZ xs c).length = cntZ xs c + 1
  | [] => rfl
  | x :: l => by
    have ih := pieces_len (c := c) (xs := l)
    simp only [splitZ]
    split
    · rename_i h
      simp only [cntZ, List.filter_cons, h, decide_true, if_true, List.length_cons] at ih ⊢; omega
    · rename_i h
      have h2 : cntZ (x :: l) c = cntZ l c := by simp [cntZ, List.filter_cons, h]
      rw [h2]
      split
      · rename_i p t e
        rw [e] at ih
        simpa using ih
      · rename_i e
        exact absurd e splitZ_ne
theorem ends_iff {xs : List Int} {c : Int} (h : 0 < xs.length) : endsB xs c = decide (xs.getD (xs.length - 1) 0 = c) := by
  unfold endsB
  have hd : xs.drop (xs.length - 1) = [xs.getD (xs.length - 1) 0] := by
    rw [List.drop_eq_getElem_cons (by omega), show xs.length - 1 + 1 = xs.length by omega, List.drop_length, List.getD_eq_getElem?_getD, List.getElem?_eq_getElem (by omega)]; rfl
  rw [hd]
  simp [show 1 ≤ xs.length by omega]
theorem lines_len {xs : List Int} {c : Int} : (splitZ (trimZ xs c) c).length = cntZ xs c + if endsB xs c = true then 0 else 1 := by
  rw [pieces_len]
  unfold trimZ
  by_cases h : endsB xs c = true
  · rw [if_pos h, if_pos h]
    have h1 : 0 < xs.length := by have := (of_decide_eq_true h).1; omega
    have e := cntZ_next (c := c) (i := xs.length - 1) (xs := xs) (by omega)
    rw [show xs.length - 1 + 1 = xs.length by omega, List.take_length] at e
    rw [ends_iff h1] at h
    rw [e, if_pos (of_decide_eq_true h)]
  · rw [if_neg h, if_neg h]
theorem trim_len {xs : List Int} {c : Int} : (trimZ xs c).length ≤ xs.length := by
  unfold trimZ
  split
  · rw [List.length_take]; omega
  · exact Nat.le_refl _
theorem lines_sum {A W : List (List Int)} {xs : List Int} {c : Int} (h : DecAll (splitZ (trimZ xs c) c) W) : sumL W ≤ xs.length + 1 := by
  have h1 := h.sum
  rw [sumL_split] at h1
  have := trim_len (xs := xs) (c := c)
  omega
theorem room_f {l : List Int} (h : l.length ≤ 262144) : roomZ [] fN l.length = 0 := by
  unfold roomZ
  rw [if_neg (by rw [nameF]; decide), if_neg (by omega), if_neg (fun g => by have := g.2; simp at this)]
end Go.Proofs.YtiebaefhlacekaaGreatDoor.Am
end
section
/- Files: the document's Of; the law FilesFails told of abstract memory. -/
set_option linter.unusedSimpArgs false
set_option linter.unusedVariables false
set_option maxHeartbeats 16000000
set_option maxRecDepth 40000
namespace Go.Proofs.YtiebaefhlacekaaGreatDoor.Am
open Go Go.RowKit Go.Proofs.Tryz
section
variable {h : Heap}
theorem refOf_ok {lv : Value} {L : List (List Int)} (hL : LR h lv L) (hr : ∀ i j, isR ((L.getD i []).getD j 0)) (hn : (encLs L).length ≤ 100000000) (hll : L.length ≤ 100000000) :
    ACalls prog 25 #[lv] h (fun y h' => RdI prog h' .u8 y (encLs L) ∧ Keeps h h') := by
  refine acalls_of_W' func25 rfl (by kernel_rfl) (by kernel_rfl) (by simp [ntmps25]) ?_
  intro H
  obtain ⟨vs, hR, hE⟩ := hL
  simp only [wk, wt, wl, ↓reduceIte, Nat.reduceEqDiff, Nat.reduceAdd, Nat.zero_add, not_false_eq_true, not_true_eq_false]
  refine W_loop (fun tm h' => Keeps h h' ∧ tm 0 = lv ∧ ∃ (i : Nat) (v : Value), tm 4 = .int .i64 i ∧ tm 3 = v ∧ i ≤ L.length ∧ Own prog h.size h' 1 v (encLs (L.take i)).length (bI (encLs (L.take i)))) (fun tm _ => (L.length - intOf (tm 4)).toNat)
    ⟨Keeps.refl H, (by first | rfl | (simp only [wk, wt, wl, ↓reduceIte, Nat.reduceEqDiff, Nat.reduceAdd, Nat.zero_add, not_false_eq_true, not_true_eq_false]; done) | (simp only [wk, wt, wl, ↓reduceIte, Nat.reduceEqDiff, Nat.reduceAdd, Nat.zero_add, not_false_eq_true, not_true_eq_false]; rfl)), 0, .slice none 0 0, (by first | rfl | (simp only [wk, wt, wl, ↓reduceIte, Nat.reduceEqDiff, Nat.reduceAdd, Nat.zero_add, not_false_eq_true, not_true_eq_false]; done) | (simp only [wk, wt, wl, ↓reduceIte, Nat.reduceEqDiff, Nat.reduceAdd, Nat.zero_add, not_false_eq_true, not_true_eq_false]; rfl)), (by first | rfl | (simp only [wk, wt, wl, ↓reduceIte, Nat.reduceEqDiff, Nat.reduceAdd, Nat.zero_add, not_false_eq_true, not_true_eq_false]; done) | (simp only [wk, wt, wl, ↓reduceIte, Nat.reduceEqDiff, Nat.reduceAdd, Nat.zero_add, not_false_eq_true, not_true_eq_false]; rfl)), by omega, by simpa [encLs, bI] using Own.nil0⟩ ?_
  rintro tm h' ⟨K, t0, i, v, t4, t3, hi, O⟩
  have RK := hR.keeps K
  simp only [wk, wt, wl, ↓reduceIte, Nat.reduceEqDiff, Nat.reduceAdd, Nat.zero_add, not_false_eq_true, not_true_eq_false, t0, t4, RK.len underlying31]
  refine condK_dec (fun hd => ?_) (fun hd => ?_)
  · have hi1 : i < L.length := by omega
    obtain ⟨hEi, hvi⟩ := hE i hi1
    have hat := encLs_at hi1
    have hge := encL_ge (L.getD i [])
    simp (disch := omega) only [wk, wt, wl, ↓reduceIte, Nat.reduceEqDiff, Nat.reduceAdd, Nat.zero_add, not_false_eq_true, not_true_eq_false, t0, t4, t3, RK.index underlying31 asz59 (q := .i64) (i := (i : Int)), Int.toNat_natCast, RK.at0 (t := 59) underlying59 rfl hi1 (by decide), Nat.mul_one, hvi]
    refine (refEncode_ok (hEi.keeps K) (by omega) (hr i)).use ?_
    rintro v2 h2 ⟨O2, K2⟩
    have KK := K.trans K2
    obtain ⟨v3, h3, e3, O3, R3, C3, hv3⟩ := (O.keeps K2).appendRd (P := prog) (Ch.wf KK) (Ch.le KK) underlying32 underlying32 rfl elem5 fits5 (by decide) O2 (by omega)
    have K3 := KK.step C3 fun b hb => hb.2
    obtain ⟨v4, h4, e4, O4, C4, R4, hv4, _⟩ := O3.append1 (P := prog) (Ch.wf C3) (Ch.le K3) underlying32 elem5 fits5 (by decide) (by decide) (xs := [.int .u8 10]) rfl (by omega)
    have K4 := K3.step C4 fun b hb => hb.2
    simp (disch := omega) only [wk, wt, wl, ↓reduceIte, Nat.reduceEqDiff, Nat.reduceAdd, Nat.zero_add, not_false_eq_true, not_true_eq_false, t0, t4, t3, e3, bi8, e4, IntWalk.i64_in, intOf_int]
    refine ⟨⟨K4, i + 1, v4, by simp, rfl, by omega, ?_⟩, by omega⟩
    rw [encLs_next hi1, bI_append, bI_append, List.length_append, List.length_append]
    exact O4
  · have he : L.take i = L := List.take_of_length_le (by omega)
    rw [he] at O
    simp only [wk, wt, wl, ↓reduceIte, Nat.reduceEqDiff, Nat.reduceAdd, Nat.zero_add, not_false_eq_true, not_true_eq_false, t3]
    all_goals exact ⟨O.rdI, K⟩
theorem small_bd {L : List (List Int)} (h : smallB L = true) : L.length ≤ 300 ∧ lenS L ≤ 3001 ∧ (encLs L).length ≤ 12304 := by
  obtain ⟨h1, h2⟩ := of_decide_eq_true h
  have h3 := encLs_len L
  unfold runesN at h2
  split at h2 <;> omega
theorem room_f1 {X : List Int} {n : Nat} (h : n ≤ 262144) : roomZ [(fN, X)] fN n = 0 := by
  unfold roomZ
  rw [if_neg (by rw [nameF]; decide), if_neg (by omega), if_neg (fun g => by have := g.2; simp at this)]
theorem get_f {X : List Int} : bytE [(fN, X)] fN = 0 ∧ bytL [(fN, X)] fN = X := by
  have hg : getD' [(fN, X)] fN = some X := rfl
  exact ⟨by unfold bytE; rw [if_neg (by rw [nameF]; decide), hg], by unfold bytL; rw [if_neg (by rw [nameF]; decide), hg]⟩
theorem put_f {X Y : List Int} : putD [(fN, X)] fN Y = [(fN, Y)] := rfl
theorem put_f0 {Y : List Int} : putD [] fN Y = [(fN, Y)] := rfl
theorem str_neq {s : ByteArray} : abin prog .neq 9 (.string s) (.string s) = some (.bool false) := by simp [abin, astr]
end
end Go.Proofs.YtiebaefhlacekaaGreatDoor.Am
end
section
/- Files: the law's line; the document's Twin: rows of one's own; plain: which rows the bytes of lines are. -/
set_option linter.unusedSimpArgs false
set_option linter.unusedVariables false
set_option maxHeartbeats 16000000
set_option maxRecDepth 40000
namespace Go.Proofs.YtiebaefhlacekaaGreatDoor.Am
open Go Go.RowKit Go.Proofs.Tryz
theorem idxB_none {c : UInt8} : ∀ {l : List UInt8}, (∀ b, b ∈ l → b ≠ c) → Lib.indexByte l c = -1
  | [], _ => rfl
  | b :: l, h => by
    have ih := idxB_none (l := l) fun x hx => h x (List.mem_cons_of_mem _ hx)
    have hb : (b == c) = false := by simpa using h b (by simp)
    unfold Lib.indexByte
    rw [hb, ih]; rfl
theorem ba_ext {s t : ByteArray} (h : s.toList = t.toList) : s = t := by
  rw [Lib.toList_data, Lib.toList_data] at h
  exact ByteArray.ext (Array.ext' h)
theorem sidx {s : ByteArray} {i : Nat} (h : i < s.size) : ∃ c : UInt8, s.data.toList[i]? = some c ∧ aindex prog 9 (.string s) (.int .i64 (i : Int)) = some (.int .u8 (c.toNat : Int)) := by
  have e : s[i]? = some s[i] := getElem?_pos s i h
  refine ⟨s[i], ?_, ?_⟩
  · have h' : i < s.data.size := h
    rw [Array.getElem?_toList, Array.getElem?_eq_getElem h']; rfl
  · simp only [aindex, underlying9, Int.toNat_natCast, e]
    rw [if_pos (by omega)]
theorem sslice {s : ByteArray} {i : Nat} {hh : Heap} (h : i ≤ s.size) : aslice prog hh 9 (.string s) none (some (.int .i64 (i : Int))) none = some (.string (s.extract 0 i)) := by
  simp [aslice, underlying9, boundOf, h]
theorem encV_no {n : Int} (h0 : 0 ≤ n) (h1 : n ≤ 1114111) (h : n ≠ 10) : 10 ∉ encV n := by
  unfold encV
  split
  · simp; omega
  · split
    · simp; omega
    · split
      · simp; omega
      · simp; omega
theorem encL_no {l : List Int} (h : ∀ r, r ∈ l → r ≠ 10) : 10 ∉ encL l := fun hm => by
  obtain ⟨r, hr, hx⟩ := List.mem_flatMap.1 hm
  have hf := fixR_range (r := r)
  refine encV_no hf.1 hf.2 (fun e => ?_) hx
  unfold fixR at e
  split at e
  · exact h r hr e
  · omega
theorem split_app {a rest : List Int} {c : Int} (h : c ∉ a) : splitZ (a ++ c :: rest) c = a :: splitZ rest c := by
  induction a with
  | nil => simp [splitZ]
  | cons x a ih =>
    simp only [List.mem_cons, not_or] at h
    have := ih h.2
    simp only [List.cons_append, splitZ, this]
    rw [if_neg (fun e => h.1 e.symm)]
def joinZ : List (List Int) → List Int
  | [] => []
  | [l] => l
  | l :: m :: L => l ++ 10 :: joinZ (m :: L)
theorem split_join : ∀ {A : List (List Int)}, A ≠ [] → (∀ a, a ∈ A → 10 ∉ a) → splitZ (joinZ A) 10 = A
  | [], h, _ => absurd rfl h
  | [l], _, h => splitZ_none (h l (by simp))
  | l :: m :: L, _, h => by
    rw [joinZ, split_app (h l (by simp)), split_join (A := m :: L) (by simp) fun a ha => h a (List.mem_cons_of_mem _ ha)]
theorem encLs_join : ∀ {L : List (List Int)}, L ≠ [] → encLs L = joinZ (L.map encL) ++ [10]
  | [], h => absurd rfl h
  | [l], _ => by simp [encLs, joinZ]
  | l :: m :: L, _ => by
    have ih := encLs_join (L := m :: L) (by simp)
    have e : encLs (l :: m :: L) = encL l ++ [10] ++ encLs (m :: L) := by simp [encLs]
    rw [e, ih]
    simp only [List.map_cons, joinZ, List.append_assoc, List.cons_append, List.nil_append]
theorem trim_app {x : List Int} : trimZ (x ++ [10]) 10 = x := by
  have : endsB (x ++ [10]) 10 = true := by
    unfold endsB; simp
  unfold trimZ
  rw [if_pos this]; simp
theorem lines_back {L W : List (List Int)} (hne : L ≠ []) (h : ∀ l, l ∈ L → ∀ r, r ∈ l → r ≠ 10) (hd : DecAll (splitZ (trimZ (encLs L) 10) 10) W) : W = L.map (·.map fixR) := by
  rw [encLs_join hne, trim_app, split_join (by simpa using hne) (fun a ha => by
    obtain ⟨l, hl, rfl⟩ := List.mem_map.1 ha
    exact encL_no (h l hl))] at hd
  exact hd.det DecAll.enc
/-- A row of one's own, that may be written. -/
def TV (B : Nat) (h : Heap) (v : Value) (l : List Int) : Prop := RdI prog h .i32 v l ∧ (∀ z, blkOf v = some z → B ≤ z ∧ ∃ cs, Var h z cs) ∧ (l ≠ [] → ∃ b, v = .slice (some ⟨b, 0, none⟩) l.length 0)
theorem TV.ch {B : Nat} {h h' : Heap} {v : Value} {l : List Int} {D : Nat → Prop} (T : TV B h v l) (H : Wf h) (C : Ch D h h') (hd : ∀ z, blkOf v = some z → ¬ D z) : TV B h' v l :=
  ⟨C.rd T.1 hd, fun z e => by
    obtain ⟨h1, cs, V⟩ := T.2.1 z e
    exact ⟨h1, cs, Ch.var H C V (hd z e)⟩, T.2.2⟩
/-- Rows of one's own, apart from one another. -/
def TR' (B : Nat) (h : Heap) (ov : Value) (W : List (Value × List Int)) : Prop :=
  (∀ z, blkOf ov = some z → B ≤ z) ∧ (∀ p, p ∈ W → TV B h p.1 p.2 ∧ ∀ z, blkOf p.1 = some z → blkOf ov ≠ some z) ∧ W.Pairwise fun p q => ∀ z, blkOf p.1 = some z → blkOf q.1 ≠ some z
theorem app_lit0 {h : Heap} {x : Value} {l : List Int} (R : RdI prog (h.new 21 []) .i32 x l) (hl : l.length ≤ 1048576) :
    (l = [] ∧ aappend prog (h.new 21 []) 59 59 (.slice (some ⟨h.size, 0, none⟩) 0 1) x = some (.slice (some ⟨h.size, 0, none⟩) 0 1, h.new 21 [])) ∨
    (l ≠ [] ∧ aappend prog (h.new 21 []) 59 59 (.slice (some ⟨h.size, 0, none⟩) 0 1) x = some (.slice (some ⟨h.size + 1, 0, none⟩) l.length 0, (h.new 21 []).new 21 (l.map (Value.int .i32)))) := by
  have hn := R.news
  obtain ⟨f1, f2, f3⟩ := fits21
  have ha := asz21
  cases l with
  | nil =>
    refine .inl ⟨rfl, ?_⟩
    simp only [List.length_nil, List.map_nil] at hn
    simp [aappend, underlying59, elem21, isRowD, f1, f2, f3, hn]
  | cons y l =>
    refine .inr ⟨by simp, ?_⟩
    have hb : (y :: l).length * 4 ≤ 140737488355328 := by simp only [List.length_cons] at hl ⊢; omega
    have hm : (y :: l).length ≠ 0 := by simp
    generalize y :: l = m at *
    simp [aappend, underlying59, elem21, isRowD, f1, f2, f3, hn, new_self, ha, hm, hb, new_size]
theorem take_next' {L : List (List Int)} {i : Nat} (hi : i < L.length) : L.take (i + 1) = L.take i ++ [L.getD i []] := by
  rw [List.take_succ_eq_append_getElem hi, List.getD_eq_getElem?_getD, List.getElem?_eq_getElem hi]; rfl
theorem twin_ok {h : Heap} {lv : Value} {L : List (List Int)} (hL : LR h lv L) (hll : L.length ≤ 1048576) (hl : lenS L ≤ 1048576) :
    ACalls prog 11 #[lv] h (fun y h' => ∃ W : List (Value × List Int), W.map (·.2) = L ∧ Rd prog h' 1 y W.length (W.map (·.1)) ∧ TR' h.size h' y W ∧ Keeps h h') := by
  refine acalls_of_W' func11 rfl (by kernel_rfl) (by kernel_rfl) (by simp [ntmps11]) ?_
  intro H
  obtain ⟨vs, hR, hE⟩ := hL
  simp only [wk, wt, wl, ↓reduceIte, Nat.reduceEqDiff, Nat.reduceAdd, Nat.zero_add, not_false_eq_true, not_true_eq_false]
  refine W_loop (fun tm h' => Keeps h h' ∧ tm 0 = lv ∧ ∃ (i : Nat) (v : Value) (W : List (Value × List Int)), tm 4 = .int .i64 i ∧ tm 3 = v ∧ i ≤ L.length ∧ W.map (·.2) = L.take i ∧ Own prog h.size h' 1 v W.length (W.map (·.1)) ∧ TR' h.size h' v W) (fun tm _ => (L.length - intOf (tm 4)).toNat)
    ⟨Keeps.refl H, (by first | rfl | (simp only [wk, wt, wl, ↓reduceIte, Nat.reduceEqDiff, Nat.reduceAdd, Nat.zero_add, not_false_eq_true, not_true_eq_false]; done) | (simp only [wk, wt, wl, ↓reduceIte, Nat.reduceEqDiff, Nat.reduceAdd, Nat.zero_add, not_false_eq_true, not_true_eq_false]; rfl)), 0, .slice none 0 0, [], (by first | rfl | (simp only [wk, wt, wl, ↓reduceIte, Nat.reduceEqDiff, Nat.reduceAdd, Nat.zero_add, not_false_eq_true, not_true_eq_false]; done) | (simp only [wk, wt, wl, ↓reduceIte, Nat.reduceEqDiff, Nat.reduceAdd, Nat.zero_add, not_false_eq_true, not_true_eq_false]; rfl)), (by first | rfl | (simp only [wk, wt, wl, ↓reduceIte, Nat.reduceEqDiff, Nat.reduceAdd, Nat.zero_add, not_false_eq_true, not_true_eq_false]; done) | (simp only [wk, wt, wl, ↓reduceIte, Nat.reduceEqDiff, Nat.reduceAdd, Nat.zero_add, not_false_eq_true, not_true_eq_false]; rfl)), by omega, by simp, Own.nil0, fun z e => (by cases e), fun p hp => (by cases hp), .nil⟩ ?_
  rintro tm h' ⟨K, t0, i, v, W, t4, t3, hi, hW, O, T1, T2, T3⟩
  have RK := hR.keeps K
  simp only [wk, wt, wl, ↓reduceIte, Nat.reduceEqDiff, Nat.reduceAdd, Nat.zero_add, not_false_eq_true, not_true_eq_false, t0, t4, RK.len underlying31]
  refine condK_dec (fun hd => ?_) (fun hd => ?_)
  · have hi1 : i < L.length := by omega
    obtain ⟨hEi, hvi⟩ := hE i hi1
    have hat := lenS_at hi1
    have hw := Ch.wf K
    have hle := Ch.le K
    have N1 := Keeps.new hw 21 []
    have hWl : W.length = i := by
      have := congrArg List.length hW
      simpa [Nat.min_eq_left hi] using this
    have step : ∀ (nv : Value) (h2 : Heap), Keeps h' h2 → TV h.size h2 nv (L.getD i []) → (∀ z, blkOf nv = some z → h'.size ≤ z) → one nv = true →
        ∃ v4 h4, aappend prog (h2.new 59 [nv]) 31 31 v (.slice (some ⟨h2.size, 0, none⟩) 1 2) = some (v4, h4) ∧ Keeps h h4 ∧ ((W ++ [(nv, L.getD i [])]).map (·.2) = L.take (i + 1)) ∧ Own prog h.size h4 1 v4 (W ++ [(nv, L.getD i [])]).length ((W ++ [(nv, L.getD i [])]).map (·.1)) ∧ TR' h.size h4 v4 (W ++ [(nv, L.getD i [])]) := by
      intro nv h2 K2 TN hnew h1
      have KK := K.trans K2
      obtain ⟨v4, h4, e4, O4, C4, R4, hv4, _⟩ := (O.keeps K2).append1 (P := prog) (Ch.wf K2) (Ch.le KK) underlying31 elem59 fits59 (by decide) (by decide) (xs := [nv]) rfl (by omega)
      have hvl : ∀ z, blkOf v = some z → z < h'.size := fun z e => (O.1.blk_lt e).1
      refine ⟨v4, h4, e4, KK.step C4 fun b hb => hb.2, ?_, ?_, ?_, ?_, ?_⟩
      · rw [List.map_append, hW, take_next' hi1]; rfl
      · rw [List.length_append, List.map_append]; exact O4
      · intro z e; rw [hv4] at e; have := blk_at e; have := Ch.le KK; omega
      · intro p hp
        rcases List.mem_append.1 hp with hp | hp
        · obtain ⟨q1, q2⟩ := T2 p hp
          refine ⟨(q1.ch hw K2 fun z e e' => e').ch (Ch.wf K2) C4 fun z e d => q2 z e d.1, fun z e e' => ?_⟩
          rw [hv4] at e'
          have := blk_at e'
          have := (q1.1.blk_lt e).1
          have := Ch.le K2
          omega
        · simp only [List.mem_singleton] at hp
          subst hp
          refine ⟨TN.ch (Ch.wf K2) C4 fun z e d => by have := hnew z e; have := hvl z d.1; omega, fun z e e' => ?_⟩
          rw [hv4] at e'
          have := blk_at e'
          have := (TN.1.blk_lt e).1
          omega
      · rw [List.pairwise_append]
        refine ⟨T3, List.pairwise_singleton _ _, fun p hp q hq z e e' => ?_⟩
        simp only [List.mem_singleton] at hq
        subst hq
        have := ((T2 p hp).1.1.blk_lt e).1
        have := hnew z e'
        omega
    have RI := RK.index underlying31 asz59 (q := .i64) (i := (i : Int)) (by omega) (by omega)
    have RN1 := RK.keeps N1
    have RA := RN1.at0 (t := 59) underlying59 rfl hi1 (by decide)
    simp only [Int.toNat_natCast] at RI
    rw [Nat.mul_one, hvi] at RA
    rcases app_lit0 ((hEi.keeps K).keeps N1) (by omega) with ⟨hnil, ea⟩ | ⟨hne, ea⟩
    · have TN : TV h.size (h'.new 21 []) (.slice (some ⟨h'.size, 0, none⟩) 0 1) (L.getD i []) := by
        rw [hnil]
        exact ⟨Rd.new hw asz21 rfl, fun z e => by have := blk_at e; subst this; exact ⟨hle, _, Var.new hw⟩, fun g => absurd rfl g⟩
      obtain ⟨v4, h4, e4, K4, w1, w2, w3⟩ := step _ _ N1 TN (fun z e => by have := blk_at e; omega) rfl
      simp only [wk, wt, wl, ↓reduceIte, Nat.reduceEqDiff, Nat.reduceAdd, Nat.zero_add, not_false_eq_true, not_true_eq_false, t0, t4, t3, build0 underlying59 asz21, RI, RA, ea, bi22 (x := .slice (some ⟨h'.size, 0, none⟩) 0 1) rfl, e4]
      simp (disch := omega) only [wk, wt, wl, ↓reduceIte, Nat.reduceEqDiff, Nat.reduceAdd, Nat.zero_add, not_false_eq_true, not_true_eq_false, t0, t4, IntWalk.i64_in, intOf_int]
      all_goals exact ⟨⟨K4, i + 1, v4, _, by simp, rfl, by omega, w1, w2, w3⟩, by omega⟩
    · have N2 := Keeps.new (Ch.wf N1) 21 ((L.getD i []).map (Value.int .i32))
      have TN : TV h.size ((h'.new 21 []).new 21 ((L.getD i []).map (Value.int .i32))) (.slice (some ⟨h'.size + 1, 0, none⟩) (L.getD i []).length 0) (L.getD i []) :=
        ⟨Rd.new (Ch.wf N1) asz21 (by simp), fun z e => by have := blk_at e; subst this; exact ⟨by omega, _, Var.new (Ch.wf N1)⟩, fun _ => ⟨_, rfl⟩⟩
      obtain ⟨v4, h4, e4, K4, w1, w2, w3⟩ := step _ _ (N1.trans N2) TN (fun z e => by have := blk_at e; omega) rfl
      simp only [new_size] at e4
      simp only [wk, wt, wl, ↓reduceIte, Nat.reduceEqDiff, Nat.reduceAdd, Nat.zero_add, not_false_eq_true, not_true_eq_false, t0, t4, t3, build0 underlying59 asz21, RI, RA, ea, bi22 (x := .slice (some ⟨h'.size + 1, 0, none⟩) (L.getD i []).length 0) rfl, new_size, e4]
      simp (disch := omega) only [wk, wt, wl, ↓reduceIte, Nat.reduceEqDiff, Nat.reduceAdd, Nat.zero_add, not_false_eq_true, not_true_eq_false, t0, t4, IntWalk.i64_in, intOf_int]
      all_goals exact ⟨⟨K4, i + 1, v4, _, by simp, rfl, by omega, w1, w2, w3⟩, by omega⟩
  · have he : L.take i = L := List.take_of_length_le (by omega)
    simp only [wk, wt, wl, ↓reduceIte, Nat.reduceEqDiff, Nat.reduceAdd, Nat.zero_add, not_false_eq_true, not_true_eq_false, t3]
    all_goals exact ⟨W, by rw [hW, he], O.1, ⟨T1, T2, T3⟩, K⟩
end Go.Proofs.YtiebaefhlacekaaGreatDoor.Am
end
section
/- Files, the document's: how they lie in memory; contracts of its name, find, room, by walks. -/
set_option linter.unusedSimpArgs false
set_option linter.unusedVariables false
set_option maxHeartbeats 8000000
set_option maxRecDepth 20000
namespace Go.Proofs.YtiebaefhlacekaaGreatDoor.Am
open Go Go.RowKit Go.Proofs.Tryz
def cFi (e : ByteArray × Value) : List Value := [.string e.1, e.2]
theorem cFi_len (e : ByteArray × Value) : (cFi e).length = 2 := rfl
section
variable {h h' : Heap} {b r b2 r2 : Nat} {fv fv' fv2 v : Value}
theorem FDi.oldG {cs : List Value} (V : Var h b cs) (hr : r = b ∨ h.get r = none) (jlt : ∀ y, blkOf fv = some y → y < h.size) (H : Wf h) (C : Ch (FDi h b r fv) h h') (hn : ∀ z, blkOf fv' = some z → h.size ≤ z ∨ blkOf fv = some z) {z : Nat} (hz : z < h.size) (F : FDi h' b r fv' z) : FDi h b r fv z := by
  rcases F with e | e | ⟨y, hy, k1, k2, g1, g2, e⟩
  · exact .inl e
  · exact .inr (.inl e)
  · obtain ⟨k0, q0, e0⟩ := C.2.2.2.2.1 z k1 hz g1
    obtain ⟨kb, v1, v2, v3, v4, v5, v6⟩ := V
    have fin : ∀ y0 k3, FDi h b r fv y0 → h.get y0 = some k3 → k0.fam = k3.fam → FDi h b r fv z := by
      intro y0 k3 F0 q e3
      have atb : y0 = b → FDi h b r fv z := fun e => by
        subst e
        rw [v1] at q; cases q
        by_cases hzb : z = y0
        · exact .inl hzb
        · exact absurd (e3.trans v5) (v6 z k0 hzb q0)
      rcases F0 with e | e | ⟨w, hw, a1, a2, p1, p2, p3⟩
      · exact atb e
      · rcases hr with hr | hr
        · exact atb (e.trans hr)
        · rw [e, hr] at q; cases q
      · rw [p1] at q; cases q
        exact .inr (.inr ⟨w, hw, k0, a2, q0, p2, e3.trans p3⟩)
    rcases hn y hy with hge | hw
    · rcases C.2.2.2.1 y k2 hge g2 with h1 | ⟨y0, k3, hd, q3, e3⟩
      · have := H.2 z k0 q0
        omega
      · exact fin y0 k3 hd q3 (by rw [← e0, e, e3])
    · obtain ⟨k3, q3, e3⟩ := C.2.2.2.2.1 y k2 (jlt y hw) g2
      exact .inr (.inr ⟨y, hw, k0, k3, q0, q3, by rw [← e0, e, e3]⟩)
theorem AP.stepG {cs : List Value} (A : AP h b r fv v) (V : Var h b cs) (hr : r = b ∨ h.get r = none) (jlt : ∀ y, blkOf fv = some y → y < h.size) (H : Wf h) (C : Ch (FDi h b r fv) h h') (hn : ∀ z, blkOf fv' = some z → h.size ≤ z ∨ blkOf fv = some z) : AP h' b r fv' v := fun z e => by
  obtain ⟨h1, h2⟩ := A z e
  exact ⟨Nat.lt_of_lt_of_le h1 (Ch.le C), fun F => h2 (FDi.oldG V hr jlt H C hn h1 F)⟩
/-- What is old stays apart of another's. -/
theorem old_apart {D : Nat → Prop} (C : Ch D h h') (hlt : ∀ y, blkOf fv2 = some y → y < h.size) {z : Nat} (hz : z < h.size) (hn : ¬ FDi h b2 r2 fv2 z) : ¬ FDi h' b2 r2 fv2 z := fun F => by
  rcases FDi.back C hlt F with g | g
  · omega
  · exact hn g
/-- What a deed made is apart of another's. -/
theorem new_apart {cs : List Value} (V : Var h b cs) (hr : r = b ∨ h.get r = none) (H : Wf h) (C : Ch (FDi h b r fv) h h') (hb : ¬ FDi h b2 r2 fv2 b) (hf : ∀ y, blkOf fv = some y → ¬ FDi h b2 r2 fv2 y) (hlt : ∀ y, blkOf fv2 = some y → y < h.size)
    (hb2 : b2 < h.size) (hr2 : r2 < h.size) {z : Nat} (hz : h.size ≤ z) : ¬ FDi h' b2 r2 fv2 z := by
  rintro (e | e | ⟨y, hy, k1, k2, g1, g2, e⟩)
  · omega
  · omega
  · obtain ⟨k3, q3, e3⟩ := C.2.2.2.2.1 y k2 (hlt y hy) g2
    have hk3 := H.2 y k3 q3
    have := hlt y hy
    rcases C.2.2.2.1 z k1 hz g1 with h1 | ⟨y0, k4, hd, q4, e4⟩
    · omega
    · have e5 : k4.fam = k3.fam := by omega
      have bad : ∀ y1, h.get y1 = some k4 → ¬ FDi h b2 r2 fv2 y1 → False := fun y1 q hn => hn (.inr (.inr ⟨y, hy, k4, k3, q, q3, e5⟩))
      rcases hd with e6 | e6 | ⟨w, hw, a1, a2, p1, p2, p3⟩
      · subst e6; exact bad _ q4 hb
      · rcases hr with hr | hr
        · rw [e6, hr] at q4; exact bad _ q4 hb
        · rw [e6, hr] at q4; cases q4
      · rw [p1] at q4; cases q4
        exact hf w hw (.inr (.inr ⟨y, hy, a2, k3, p2, q3, by omega⟩))
end
/-- The document's files as they lie: x's own block, the row of files, the row of outcomes. -/
structure RK (h : Heap) (xb : Nat) (Lv Nv : Value) (E : List (ByteArray × Value)) (X : List (ByteArray × List Int)) (fl : List Int) : Prop where
  var : Var h xb [Lv, Nv]
  row : RS prog h 2 cFi Lv E
  own : OwnR prog h 1 Nv fl.length (fl.map (Value.int .i64))
  nb : blkOf Nv ≠ some xb
  aL : AP h xb xb Nv Lv
  len : E.length = X.length
  ev : ∀ (i : Nat) (e : ByteArray × Value) (d : ByteArray × List Int), E[i]? = some e → X[i]? = some d → e.1 = d.1 ∧ RdI prog h .u8 e.2 d.2 ∧ AP h xb xb Nv e.2 ∧ ∀ x, x ∈ d.2 → isB x
section
variable {h h' : Heap} {xb : Nat} {Lv Nv : Value} {E : List (ByteArray × Value)} {X : List (ByteArray × List Int)} {fl : List Int}
theorem RK.jlt (M : RK h xb Lv Nv E X fl) : ∀ y, blkOf Nv = some y → y < h.size := fun y e => (M.own.1.blk_lt e).1
theorem RK.keeps (M : RK h xb Lv Nv E X fl) (H : Wf h) (K : Keeps h h') : RK h' xb Lv Nv E X fl := by
  have C : Ch (FDi h xb xb Nv) h h' := K.mono fun _ e => e.elim
  have hn : ∀ z, blkOf Nv = some z → h.size ≤ z ∨ blkOf Nv = some z := fun z e => .inr e
  exact ⟨Keeps.var H K M.var, M.row.keeps K, M.own.keeps K, M.nb, M.aL.stepG M.var (.inl rfl) M.jlt H C hn, M.len, fun i e d he hd => by
    obtain ⟨q1, q2, q3, q4⟩ := M.ev i e d he hd
    exact ⟨q1, q2.keeps K, q3.stepG M.var (.inl rfl) M.jlt H C hn, q4⟩⟩
theorem RK.names (M : RK h xb Lv Nv E X fl) (x : ByteArray) : findS x E = findD x X := find_eq M.len fun i e d he hd => (M.ev i e d he hd).1
theorem RK.fld (M : RK h xb Lv Nv E X fl) {i : Nat} {e : ByteArray × Value} (hi : E[i]? = some e) :
    aload prog h 9 ⟨(eltA Lv 2 i).block, (eltA Lv 2 i).off + 0, none⟩ = some (.string e.1) ∧ aload prog h 9 (eltA Lv 2 i) = some (.string e.1) ∧ aload prog h 32 ⟨(eltA Lv 2 i).block, (eltA Lv 2 i).off + 1, none⟩ = some e.2 := by
  have h0 := M.row.fld cFi_len (t := 9) underlying9 rfl hi (j := 0) (by decide)
  have h1 := M.row.fld cFi_len (t := 32) underlying32 rfl hi (j := 1) (by decide)
  refine ⟨h0, ?_, h1⟩
  rw [eltA_eta] at h0
  exact h0
theorem str_eqt {s : ByteArray} : abin prog .eql 9 (.string s) (.string s) = some (.bool true) := by simp [abin, astr]
theorem str_eqf {s t : ByteArray} (h : s ≠ t) : abin prog .eql 9 (.string s) (.string t) = some (.bool false) := by
  have : ¬ s.toList = t.toList := fun e => h (ba_ext e)
  simp [abin, astr, this]
theorem findS_at {s : ByteArray} : ∀ {E : List (ByteArray × Value)} {i : Nat} {e : ByteArray × Value}, (∀ (j : Nat) a, j < i → E[j]? = some a → a.1 ≠ s) → E[i]? = some e → e.1 = s → findS s E = some i
  | [], i, e, _, h, _ => by simp at h
  | a :: E, 0, e, _, h, hs => by
    simp at h; subst h
    unfold findS; rw [if_pos hs]
  | a :: E, i + 1, e, hj, h, hs => by
    unfold findS
    rw [if_neg (hj 0 a (by omega) rfl), findS_at (E := E) (i := i) (e := e) (fun j a hji ha => hj (j + 1) a (by omega) (by simpa using ha)) (by simpa using h) hs]; rfl
theorem findS_no {s : ByteArray} : ∀ {E : List (ByteArray × Value)}, (∀ (j : Nat) a, E[j]? = some a → a.1 ≠ s) → findS s E = none
  | [], _ => rfl
  | a :: E, hj => by
    unfold findS
    rw [if_neg (hj 0 a rfl), findS_no (E := E) fun j a ha => hj (j + 1) a (by simpa using ha)]; rfl
def findI (s : ByteArray) (X : List (ByteArray × List Int)) : Int := match findD s X with | some i => i | none => -1
theorem find_ok {s : ByteArray} (M : RK h xb Lv Nv E X fl) (hE : E.length ≤ 1000000) : ACalls prog 37 #[pt xb, .string s] h (fun y h' => y = .int .i64 (findI s X) ∧ h' = h) := by
  refine acalls_of_W func37 rfl (by kernel_rfl) (by kernel_rfl) (by simp [ntmps37]) ?_
  have ML := M.var.load1 (P := prog) (t := 26) underlying26 rfl (i := 0)
  simp only [List.getElem?_cons_zero] at ML
  have LE := M.row.len underlying26
  unfold findI
  rw [← M.names]
  simp only [wk, wt, wl, ↓reduceIte, Nat.reduceEqDiff, Nat.reduceAdd, Nat.zero_add, not_false_eq_true, not_true_eq_false]
  refine W_loop (fun tm h' => h' = h ∧ tm 0 = pt xb ∧ tm 1 = .string s ∧ ∃ (i : Nat), tm 5 = .int .i64 i ∧ i ≤ E.length ∧ ∀ (j : Nat) a, j < i → E[j]? = some a → a.1 ≠ s) (fun tm _ => (E.length - intOf (tm 5)).toNat)
    ⟨rfl, (by first | rfl | (simp only [wk, wt, wl, ↓reduceIte, Nat.reduceEqDiff, Nat.reduceAdd, Nat.zero_add, not_false_eq_true, not_true_eq_false]; done) | (simp only [wk, wt, wl, ↓reduceIte, Nat.reduceEqDiff, Nat.reduceAdd, Nat.zero_add, not_false_eq_true, not_true_eq_false]; rfl)), (by first | rfl | (simp only [wk, wt, wl, ↓reduceIte, Nat.reduceEqDiff, Nat.reduceAdd, Nat.zero_add, not_false_eq_true, not_true_eq_false]; done) | (simp only [wk, wt, wl, ↓reduceIte, Nat.reduceEqDiff, Nat.reduceAdd, Nat.zero_add, not_false_eq_true, not_true_eq_false]; rfl)), 0, (by first | rfl | (simp only [wk, wt, wl, ↓reduceIte, Nat.reduceEqDiff, Nat.reduceAdd, Nat.zero_add, not_false_eq_true, not_true_eq_false]; done) | (simp only [wk, wt, wl, ↓reduceIte, Nat.reduceEqDiff, Nat.reduceAdd, Nat.zero_add, not_false_eq_true, not_true_eq_false]; rfl)), by omega, fun j a hj => by omega⟩ ?_
  rintro tm h' ⟨rfl, t0, t1, i, t5, hi, hj⟩
  simp only [wk, wt, wl, ↓reduceIte, Nat.reduceEqDiff, Nat.reduceAdd, Nat.zero_add, not_false_eq_true, not_true_eq_false, t0, t5, pt, ML, LE]
  refine condK_dec (fun hd => ?_) (fun hd => ?_)
  · have hi1 : i < E.length := by omega
    obtain ⟨e, he⟩ : ∃ e, E[i]? = some e := ⟨E[i], List.getElem?_eq_getElem hi1⟩
    obtain ⟨q0, q0', q1⟩ := M.fld he
    have IX := Rd.index M.row underlying26 asz58 (q := .i64) (i := (i : Int)) (by omega) (by omega)
    simp only [Int.toNat_natCast] at IX
    by_cases hs : e.1 = s
    · rw [findS_at hj he hs]
      rw [hs] at q0 q0'
      simp only [wk, wt, wl, ↓reduceIte, Nat.reduceEqDiff, Nat.reduceAdd, Nat.zero_add, not_false_eq_true, not_true_eq_false, t0, t1, t5, pt, ML, IX, q0, q0', str_eqt]
      all_goals exact ⟨rfl, trivial⟩
    · simp only [wk, wt, wl, ↓reduceIte, Nat.reduceEqDiff, Nat.reduceAdd, Nat.zero_add, not_false_eq_true, not_true_eq_false, t0, t1, t5, pt, ML, IX, q0, q0', str_eqf hs]
      simp (disch := omega) only [wk, wt, wl, ↓reduceIte, Nat.reduceEqDiff, Nat.reduceAdd, Nat.zero_add, not_false_eq_true, not_true_eq_false, t0, t1, t5, IntWalk.i64_in, intOf_int]
      all_goals exact ⟨⟨i + 1, by simp, by omega, fun j a hji ha => by
        by_cases e' : j = i
        · subst e'; rw [he] at ha; cases ha; exact hs
        · exact hj j a (by omega) ha⟩, by omega⟩
  · rw [findS_no fun j a ha => hj j a (by have := (List.getElem?_eq_some_iff.1 ha).1; omega) ha]
    simp only [wk, wt, wl, ↓reduceIte, Nat.reduceEqDiff, Nat.reduceAdd, Nat.zero_add, not_false_eq_true, not_true_eq_false]
    all_goals exact ⟨rfl, trivial⟩
theorem idxB_has {c : UInt8} : ∀ {l : List UInt8}, c ∈ l → Lib.indexByte l c ≠ -1
  | [], h => by simp at h
  | b :: l, h => by
    have hg := Lib.indexByte_ge l c
    unfold Lib.indexByte
    by_cases hb : b = c
    · have : (b == c) = true := by simpa using hb
      rw [this]; simp
    · have hb' : (b == c) = false := by simpa using hb
      have ih := idxB_has (l := l) (by rcases List.mem_cons.1 h with h | h; exact absurd h.symm hb; exact h)
      have ih' : (Lib.indexByte l c == -1) = false := by simpa using ih
      rw [hb', ih']
      simp only [Bool.false_eq_true, if_false]
      omega
theorem refName_ok {s : ByteArray} {h : Heap} (hs : s.size ≤ 1000000000000) : ACalls prog 36 #[.string s] h (fun y h' => y = .bool (nameB s) ∧ h' = h) := by
  refine acalls_of_W func36 rfl (by kernel_rfl) (by kernel_rfl) (by simp [ntmps36]) ?_
  by_cases c1 : (s.size : Int) < 1
  · have hn : nameB s = false := by unfold nameB; exact decide_eq_false fun g => by have := g.1; omega
    rw [hn]
    simp only [wk, wt, wl, ↓reduceIte, Nat.reduceEqDiff, Nat.reduceAdd, Nat.zero_add, not_false_eq_true, not_true_eq_false, slen, decide_eq_true c1]
    all_goals exact ⟨rfl, trivial⟩
  · by_cases c2 : (64 : Int) < s.size
    · have hn : nameB s = false := by unfold nameB; exact decide_eq_false fun g => by have := g.2.1; omega
      rw [hn]
      simp only [wk, wt, wl, ↓reduceIte, Nat.reduceEqDiff, Nat.reduceAdd, Nat.zero_add, not_false_eq_true, not_true_eq_false, slen, decide_eq_false c1, decide_eq_true c2]
      all_goals exact ⟨rfl, trivial⟩
    · simp only [wk, wt, wl, ↓reduceIte, Nat.reduceEqDiff, Nat.reduceAdd, Nat.zero_add, not_false_eq_true, not_true_eq_false, slen, decide_eq_false c1, decide_eq_false c2]
      refine W_loop (fun tm h' => h' = h ∧ tm 0 = .string s ∧ ∃ (i : Nat), tm 3 = .int .i64 i ∧ i ≤ s.size ∧ ∀ (j : Nat), j < i → s.data.toList[j]? ≠ some 10) (fun tm _ => (s.size - intOf (tm 3)).toNat)
        ⟨rfl, (by first | rfl | (simp only [wk, wt, wl, ↓reduceIte, Nat.reduceEqDiff, Nat.reduceAdd, Nat.zero_add, not_false_eq_true, not_true_eq_false]; done) | (simp only [wk, wt, wl, ↓reduceIte, Nat.reduceEqDiff, Nat.reduceAdd, Nat.zero_add, not_false_eq_true, not_true_eq_false]; rfl)), 0, (by first | rfl | (simp only [wk, wt, wl, ↓reduceIte, Nat.reduceEqDiff, Nat.reduceAdd, Nat.zero_add, not_false_eq_true, not_true_eq_false]; done) | (simp only [wk, wt, wl, ↓reduceIte, Nat.reduceEqDiff, Nat.reduceAdd, Nat.zero_add, not_false_eq_true, not_true_eq_false]; rfl)), by omega, fun j hj => by omega⟩ ?_
      rintro tm h' ⟨rfl, t0, i, t3, hi, hj⟩
      simp only [wk, wt, wl, ↓reduceIte, Nat.reduceEqDiff, Nat.reduceAdd, Nat.zero_add, not_false_eq_true, not_true_eq_false, t0, t3, slen]
      refine condK_dec (fun hd => ?_) (fun hd => ?_)
      · have hi1 : i < s.size := by omega
        obtain ⟨c, e1, e2⟩ := sidx hi1
        by_cases hc : c = 10
        · subst hc
          have d : decide (((10 : UInt8).toNat : Int) = 10) = true := rfl
          have hn : nameB s = false := by
            unfold nameB
            refine decide_eq_false fun g => g.2.2 ?_
            apply Classical.byContradiction
            intro hneg
            have hg := Lib.indexByte_ge s.data.toList 10
            have hm : Lib.indexByte s.data.toList 10 = -1 := by omega
            exact idxB_has (List.mem_of_getElem? e1) hm
          rw [hn]
          simp only [wk, wt, wl, ↓reduceIte, Nat.reduceEqDiff, Nat.reduceAdd, Nat.zero_add, not_false_eq_true, not_true_eq_false, t0, t3, e2, d]
          all_goals exact ⟨rfl, trivial⟩
        · have d : decide ((c.toNat : Int) = 10) = false := decide_eq_false fun g => hc (UInt8.toNat_inj.1 (by show c.toNat = 10; omega))
          simp only [wk, wt, wl, ↓reduceIte, Nat.reduceEqDiff, Nat.reduceAdd, Nat.zero_add, not_false_eq_true, not_true_eq_false, t0, t3, e2, d]
          simp (disch := omega) only [wk, wt, wl, ↓reduceIte, Nat.reduceEqDiff, Nat.reduceAdd, Nat.zero_add, not_false_eq_true, not_true_eq_false, t0, t3, IntWalk.i64_in, intOf_int]
          all_goals exact ⟨⟨i + 1, by simp, by omega, fun j hj' => by
            by_cases e : j = i
            · subst e; rw [e1]; simpa using hc
            · exact hj j (by omega)⟩, by omega⟩
      · have hn : nameB s = true := by
          unfold nameB
          refine decide_eq_true ⟨by omega, by omega, fun g => ?_⟩
          have : Lib.indexByte s.data.toList 10 = -1 := idxB_none fun b hb e => by
            obtain ⟨j, hj', rfl⟩ := List.getElem_of_mem hb
            have hjs : j < s.size := by simpa using hj'
            exact hj j (by omega) (by rw [List.getElem?_eq_getElem hj', e])
          rw [this] at g; omega
        rw [hn]
        simp only [wk, wt, wl, ↓reduceIte, Nat.reduceEqDiff, Nat.reduceAdd, Nat.zero_add, not_false_eq_true, not_true_eq_false]
        all_goals exact ⟨rfl, trivial⟩
theorem refRoom_ok {s : ByteArray} {n : Int} (M : RK h xb Lv Nv E X fl) (hE : E.length ≤ 1000000) (hs : s.size ≤ 1000000000000) :
    ACalls prog 26 #[pt xb, .string s, .int .i64 n] h (fun y h' => y = .int .i64 (numZ (roomZ X s n)) ∧ h' = h) := by
  refine acalls_of_W func26 rfl (by kernel_rfl) (by kernel_rfl) (by simp [ntmps26]) ?_
  have ML := M.var.load1 (P := prog) (t := 26) underlying26 rfl (i := 0)
  simp only [List.getElem?_cons_zero] at ML
  have LE := M.row.len underlying26
  simp only [wk, wt, wl, ↓reduceIte, Nat.reduceEqDiff, Nat.reduceAdd, Nat.zero_add, not_false_eq_true, not_true_eq_false]
  refine (refName_ok hs).use_pure ?_
  unfold roomZ
  cases hn : nameB s with
  | false =>
    rw [if_pos rfl]
    simp only [wk, wt, wl, ↓reduceIte, Nat.reduceEqDiff, Nat.reduceAdd, Nat.zero_add, not_false_eq_true, not_true_eq_false, Bool.not_false]
    all_goals exact ⟨rfl, trivial⟩
  | true =>
    rw [if_neg (by decide)]
    by_cases c1 : (262144 : Int) < n
    · rw [if_pos c1]
      simp only [wk, wt, wl, ↓reduceIte, Nat.reduceEqDiff, Nat.reduceAdd, Nat.zero_add, not_false_eq_true, not_true_eq_false, Bool.not_true, decide_eq_true c1]
      all_goals exact ⟨rfl, trivial⟩
    · rw [if_neg c1]
      by_cases c2 : (32 : Int) ≤ E.length
      · simp only [wk, wt, wl, ↓reduceIte, Nat.reduceEqDiff, Nat.reduceAdd, Nat.zero_add, not_false_eq_true, not_true_eq_false, Bool.not_true, decide_eq_false c1, pt, ML, LE, decide_eq_true c2]
        refine (find_ok M hE).use_pure ?_
        have hx : 32 ≤ X.length := by have := M.len; omega
        unfold findI
        cases hf : findD s X with
        | none =>
          rw [if_pos ⟨rfl, hx⟩]
          have d : decide ((-1 : Int) < 0) = true := rfl
          simp only [wk, wt, wl, ↓reduceIte, Nat.reduceEqDiff, Nat.reduceAdd, Nat.zero_add, not_false_eq_true, not_true_eq_false, d]
          all_goals exact ⟨rfl, trivial⟩
        | some i =>
          rw [if_neg (by simp)]
          have d : decide ((i : Int) < 0) = false := decide_eq_false (by omega)
          simp only [wk, wt, wl, ↓reduceIte, Nat.reduceEqDiff, Nat.reduceAdd, Nat.zero_add, not_false_eq_true, not_true_eq_false, d]
          all_goals exact ⟨rfl, trivial⟩
      · rw [if_neg (fun g => c2 (by have := M.len; have := g.2; omega))]
        simp only [wk, wt, wl, ↓reduceIte, Nat.reduceEqDiff, Nat.reduceAdd, Nat.zero_add, not_false_eq_true, not_true_eq_false, Bool.not_true, decide_eq_false c1, pt, ML, LE, decide_eq_false c2]
        all_goals exact ⟨rfl, trivial⟩
end
end Go.Proofs.YtiebaefhlacekaaGreatDoor.Am
end
section
/- Files, the document's: Lines told, by a walk. -/
set_option linter.unusedSimpArgs false
set_option linter.unusedVariables false
set_option maxHeartbeats 8000000
set_option maxRecDepth 20000
namespace Go.Proofs.YtiebaefhlacekaaGreatDoor.Am
open Go Go.RowKit Go.Proofs.Tryz
theorem refDecode_new {b : List Int} {bv : Value} {h : Heap} (hB : RdI prog h .u8 bv b) (hbB : ∀ x, x ∈ b → isB x) (hb : b.length ≤ 900000000) :
    ACalls prog 47 #[bv] h (fun v h' => ∃ l, RDec b l ∧ RdI prog h' .i32 v l ∧ l.length ≤ b.length ∧ Keeps h h' ∧ ∀ y, blkOf v = some y → h.size ≤ y) := by
  refine acalls_of_W' func47 rfl (by kernel_rfl) (by kernel_rfl) (by simp [ntmps47]) ?_
  intro H
  simp only [wk, wt, wl, ↓reduceIte, Nat.reduceEqDiff, Nat.reduceAdd, Nat.zero_add, not_false_eq_true, not_true_eq_false]
  refine W_loop (fun tm h' => Keeps h h' ∧ ∃ (cv v : Value) (cur l : List Int), tm 0 = cv ∧ tm 3 = v ∧ RdI prog h' .u8 cv cur ∧ (∀ x, x ∈ cur → isB x) ∧ l.length + cur.length ≤ b.length ∧ Own prog h.size h' 1 v l.length (vI l) ∧ (∀ l', RDec cur l' → RDec b (l ++ l')) ∧ (∀ y, blkOf v = some y → h.size ≤ y) ∧ abuiltin prog .len #[32] #[tm 0] = some (.int .i64 cur.length)) (fun tm _ => match abuiltin prog .len #[32] #[tm 0] with | some (.int _ n) => n.toNat | _ => 0)
    ⟨Keeps.refl H, bv, .slice none 0 0, b, [], (by first | rfl | (simp only [wk, wt, wl, ↓reduceIte, Nat.reduceEqDiff, Nat.reduceAdd, Nat.zero_add, not_false_eq_true, not_true_eq_false]; done) | (simp only [wk, wt, wl, ↓reduceIte, Nat.reduceEqDiff, Nat.reduceAdd, Nat.zero_add, not_false_eq_true, not_true_eq_false]; rfl)), (by first | rfl | (simp only [wk, wt, wl, ↓reduceIte, Nat.reduceEqDiff, Nat.reduceAdd, Nat.zero_add, not_false_eq_true, not_true_eq_false]; done) | (simp only [wk, wt, wl, ↓reduceIte, Nat.reduceEqDiff, Nat.reduceAdd, Nat.zero_add, not_false_eq_true, not_true_eq_false]; rfl)), hB, hbB, by simp, by simpa [vI] using Own.nil0, fun l' g => g, fun y hy => (by cases hy), by simp only [wk, wt, wl, ↓reduceIte, Nat.reduceEqDiff, Nat.reduceAdd, Nat.zero_add, not_false_eq_true, not_true_eq_false, RdI.len hB underlying32]⟩ ?_
  rintro tm h' ⟨K, cv, v, cur, l, t0, t3, R, hcB, hlen, O, hdec, hfr, hmeas⟩
  simp only [wk, wt, wl, ↓reduceIte, Nat.reduceEqDiff, Nat.reduceAdd, Nat.zero_add, not_false_eq_true, not_true_eq_false, t0, t3, RdI.len R underlying32]
  have tail : ∀ (r : Int) (n : Nat), 1 ≤ n → n ≤ cur.length → (wholeZ cur).getD (65533, 1) = (r, n) → cur ≠ [] → (∀ l', RDec (cur.drop n) l' → RDec b ((l ++ [r]) ++ l')) := fun r n h1 h2 e hne l' g => by
    rw [List.append_assoc]; exact hdec _ (.step hne e g)
  refine condK_dec (fun hd => ?_) (fun hd => ?_)
  · have hne : cur ≠ [] := by rintro rfl; simp at hd
    have hpos : 0 < cur.length := by omega
    simp only [wk, wt, wl, ↓reduceIte, Nat.reduceEqDiff, Nat.reduceAdd, Nat.zero_add, not_false_eq_true, not_true_eq_false, t0, t3]
    refine (whole_ok R hcB (by omega)).use ?_
    rintro _ h2 ⟨rfl, K2⟩
    have R2 := R.keeps K2
    have O2 := O.keeps K2
    have KK := K.trans K2
    cases hw : wholeZ cur with
    | some p =>
      obtain ⟨r, n⟩ := p
      obtain ⟨g1, g2, g3, _, _⟩ := whole_cases hcB hw
      simp only [wholeT, hw]
      simp only [wk, wt, wl, ↓reduceIte, Nat.reduceEqDiff, Nat.reduceAdd, Nat.zero_add, not_false_eq_true, not_true_eq_false, t0, t3, Bool.not_true]
      obtain ⟨v4, h4, e4, O4, C4, R4, ev4, _⟩ := O2.append1 (P := prog) (Ch.wf KK) (Ch.le KK) underlying59 elem21 fits21 (by decide) (by decide) (xs := [.int .i32 r]) rfl (by omega)
      rw [e4]; clear e4
      have K4 := KK.step C4 fun b hb => hb.2
      have R5 := Rd.reads R2 C4.le R4
      have P5 := RdI.partLo R5 g3
      simp (disch := omega) only [wk, wt, wl, ↓reduceIte, Nat.reduceEqDiff, Nat.reduceAdd, Nat.zero_add, not_false_eq_true, not_true_eq_false, t0, t3, Rd.sliceLo R5 underlying32 asz5 (q := .i64) (i := (n : Int)), Int.toNat_natCast]
      have L5 := RdI.len P5 underlying32
      have tl := tail r n g1 g3 (by rw [hw]; rfl) hne
      refine ⟨⟨K4, _, v4, cur.drop n, l ++ [r], rfl, rfl, P5, fun x hx => hcB x (List.mem_of_mem_drop hx), by simp only [List.length_append, List.length_singleton, List.length_drop]; omega, by rw [vI_append, List.length_append]; exact O4, tl, fun y hy => by rw [ev4] at hy; have := blk_at hy; have := Ch.le KK; omega, L5⟩, ?_⟩
      simp only [RdI.len R underlying32, L5, Int.toNat_natCast, List.length_drop]; omega
    | none =>
      simp only [wholeT, hw]
      simp only [wk, wt, wl, ↓reduceIte, Nat.reduceEqDiff, Nat.reduceAdd, Nat.zero_add, not_false_eq_true, not_true_eq_false, t0, t3, Bool.not_false]
      obtain ⟨v4, h4, e4, O4, C4, R4, ev4, _⟩ := O2.append1 (P := prog) (Ch.wf KK) (Ch.le KK) underlying59 elem21 fits21 (by decide) (by decide) (xs := [.int .i32 65533]) rfl (by omega)
      rw [e4]; clear e4
      have K4 := KK.step C4 fun b hb => hb.2
      have R5 := Rd.reads R2 C4.le R4
      have P5 := RdI.partLo R5 (L := 1) hpos
      simp (disch := omega) only [wk, wt, wl, ↓reduceIte, Nat.reduceEqDiff, Nat.reduceAdd, Nat.zero_add, not_false_eq_true, not_true_eq_false, t0, t3, Rd.sliceLo R5 underlying32 asz5 (q := .i64) (i := 1), Int.toNat_one]
      have L5 := RdI.len P5 underlying32
      have tl := tail 65533 1 (by omega) hpos (by rw [hw]; rfl) hne
      refine ⟨⟨K4, _, v4, cur.drop 1, l ++ [65533], rfl, rfl, P5, fun x hx => hcB x (List.mem_of_mem_drop hx), by simp only [List.length_append, List.length_singleton, List.length_drop]; omega, by rw [vI_append, List.length_append]; exact O4, tl, fun y hy => by rw [ev4] at hy; have := blk_at hy; have := Ch.le KK; omega, L5⟩, ?_⟩
      simp only [RdI.len R underlying32, L5, Int.toNat_natCast, List.length_drop]; omega
  · have hn : cur = [] := List.eq_nil_of_length_eq_zero (by omega)
    simp only [wk, wt, wl, ↓reduceIte, Nat.reduceEqDiff, Nat.reduceAdd, Nat.zero_add, not_false_eq_true, not_true_eq_false, t3]
    refine ⟨l, ?_, O.1, by omega, K, hfr⟩
    subst hn
    simpa using hdec _ .nil
theorem getD_at {α : Type} {l : List α} {i : Nat} {d : α} (h : i < l.length) : l.getD i d = l[i] := by
  rw [List.getD_eq_getElem?_getD, List.getElem?_eq_getElem h]; rfl
def RDecAll (A W : List (List Int)) : Prop := A.length = W.length ∧ ∀ (i : Nat) (a l : List Int), A[i]? = some a → W[i]? = some l → RDec a l
theorem RDecAll.add {A W : List (List Int)} {a l : List Int} (H : RDecAll A W) (h : RDec a l) : RDecAll (A ++ [a]) (W ++ [l]) := by
  refine ⟨by simp [H.1], fun i x y hx hy => ?_⟩
  rw [List.getElem?_append] at hx hy
  rw [H.1] at hx
  split at hx
  · rename_i hi
    rw [if_pos hi] at hy
    exact H.2 i x y (by rw [← hx]) (by rw [← hy])
  · rename_i hi
    rw [if_neg hi] at hy
    have h0 : i - W.length = 0 := by
      have := (List.getElem?_eq_some_iff.1 hx).1
      simp only [List.length_singleton] at this
      omega
    rw [h0] at hx hy
    cases hx; cases hy
    exact h
theorem DecAll.rdec {A W W' : List (List Int)} (H : DecAll A W) (G : RDecAll A W') : W = W' := by
  refine List.ext_getElem? fun i => ?_
  by_cases hi : i < A.length
  · have h1 : i < W.length := by have := H.1; omega
    have h2 : i < W'.length := by have := G.1; omega
    have e1 := H.2 i A[i] W[i] (List.getElem?_eq_getElem hi) (List.getElem?_eq_getElem h1)
    have e2 := G.2 i A[i] W'[i] (List.getElem?_eq_getElem hi) (List.getElem?_eq_getElem h2)
    rw [List.getElem?_eq_getElem h1, List.getElem?_eq_getElem h2, e1.rdec.det e2]
  · rw [List.getElem?_eq_none (by have := H.1; omega), List.getElem?_eq_none (by have := G.1; omega)]
theorem split_snoc {c : Int} : ∀ {x : List Int}, splitZ (x ++ [c]) c = splitZ x c ++ [[]]
  | [] => by simp [splitZ]
  | y :: x => by
    have ih := split_snoc (c := c) (x := x)
    simp only [List.cons_append, splitZ, ih]
    split
    · simp
    · cases h : splitZ x c with
      | nil => exact absurd h splitZ_ne
      | cons p t => simp
/-- Rows that grow, with what they read. -/
def GR (B : Nat) (h : Heap) (ov : Value) (W : List (Value × List Int)) : Prop := Own prog B h 1 ov W.length (W.map (·.1)) ∧ (∀ z, blkOf ov = some z → B ≤ z) ∧ ∀ p, p ∈ W → RdI prog h .i32 p.1 p.2 ∧ ∀ z, blkOf p.1 = some z → B ≤ z ∧ blkOf ov ≠ some z
theorem GR.add {B : Nat} {h h2 : Heap} {ov xv : Value} {W : List (Value × List Int)} {l : List Int} (G : GR B h ov W) (H : Wf h) (hB : B ≤ h.size) (K : Keeps h h2) (R : RdI prog h2 .i32 xv l) (hx : ∀ z, blkOf xv = some z → h.size ≤ z) (hW : W.length ≤ 1000000) :
    ∃ v' h', aappend prog (h2.new 59 [xv]) 31 31 ov (.slice (some ⟨h2.size, 0, none⟩) 1 2) = some (v', h') ∧ GR B h' v' (W ++ [(xv, l)]) ∧ Ch (fun y => B ≤ y) h h' := by
  obtain ⟨O, hb, hr⟩ := G
  have hle := Ch.le K
  have nov : ∀ z, blkOf ov = some z → z < h.size := fun z e => (O.1.blk_lt e).1
  obtain ⟨v7, h7, e7, O7, C7, R7, ev7, _⟩ := (O.keeps K).append1 (P := prog) (Ch.wf K) (by omega) underlying31 elem59 fits59 (by decide) (by decide) (xs := [xv]) rfl (by omega)
  refine ⟨v7, h7, e7, ⟨by rw [List.length_append, List.map_append]; exact O7, fun z e => by rw [ev7] at e; have := blk_at e; omega, fun p hp => ?_⟩, (K.mono fun _ e => e.elim).then C7 fun y e => .inr e.2⟩
  rcases List.mem_append.1 hp with hp | hp
  · obtain ⟨q1, q2⟩ := hr p hp
    refine ⟨C7.rd (q1.keeps K) fun z e d => (q2 z e).2 d.1, fun z e => ⟨(q2 z e).1, fun e' => ?_⟩⟩
    rw [ev7] at e'
    have := blk_at e'
    have := (q1.blk_lt e).1
    omega
  · simp only [List.mem_singleton] at hp
    subst hp
    refine ⟨C7.rd R fun z e d => by have := hx z e; have := nov z d.1; omega, fun z e => ⟨by have := hx z e; omega, fun e' => ?_⟩⟩
    rw [ev7] at e'
    have := blk_at e'
    have := (R.blk_lt e).1
    omega
theorem GR.lr {B : Nat} {h : Heap} {ov : Value} {W : List (Value × List Int)} (G : GR B h ov W) : LR h ov (W.map (·.2)) := by
  refine ⟨W.map (·.1), by rw [List.length_map]; exact G.1.1, fun i hi => ?_⟩
  rw [List.length_map] at hi
  have hp := (G.2.2 W[i] (List.getElem_mem hi)).1
  have e1 : (W.map (·.1)).getD i undef = W[i].1 := by simp [List.getD, hi]
  have e2 : (W.map (·.2)).getD i [] = W[i].2 := by simp [List.getD, hi]
  rw [e1, e2]
  exact ⟨hp, by simp [hi]⟩
theorem lines_ok {v : Value} {l : List Int} {h : Heap} (R : RdI prog h .u8 v l) (hB : ∀ x, x ∈ l → isB x) (hl : l.length ≤ 262144) :
    ACalls prog 32 #[v] h (fun y h' => ∃ W, RDecAll (splitZ (trimZ l 10) 10) W ∧ LR h' y W ∧ Keeps h h') := by
  refine acalls_of_W' func32 rfl (by kernel_rfl) (by kernel_rfl) (by simp [ntmps32]) ?_
  intro H
  simp only [wk, wt, wl, ↓reduceIte, Nat.reduceEqDiff, Nat.reduceAdd, Nat.zero_add, not_false_eq_true, not_true_eq_false]
  refine W_loop (fun tm h' => Ch (fun y => h.size ≤ y) h h' ∧ tm 0 = v ∧ ∃ (i f : Nat) (ov : Value) (W : List (Value × List Int)) (P : List (List Int)), tm 5 = .int .i64 i ∧ tm 4 = .int .i64 f ∧ tm 3 = ov ∧ f ≤ i ∧ i ≤ l.length ∧ W.length ≤ i ∧ GR h.size h' ov W ∧ RDecAll P (W.map (·.2)) ∧
      splitZ l 10 = P ++ splitZ (l.drop f) 10 ∧ 10 ∉ (l.drop f).take (i - f) ∧ (f = 0 ∨ l.getD (f - 1) 0 = 10)) (fun tm _ => (l.length - intOf (tm 5)).toNat)
    ⟨(Keeps.refl H).mono (fun _ e => e.elim), (by first | rfl | (simp only [wk, wt, wl, ↓reduceIte, Nat.reduceEqDiff, Nat.reduceAdd, Nat.zero_add, not_false_eq_true, not_true_eq_false]; done) | (simp only [wk, wt, wl, ↓reduceIte, Nat.reduceEqDiff, Nat.reduceAdd, Nat.zero_add, not_false_eq_true, not_true_eq_false]; rfl)), 0, 0, .slice none 0 0, [], [], (by first | rfl | (simp only [wk, wt, wl, ↓reduceIte, Nat.reduceEqDiff, Nat.reduceAdd, Nat.zero_add, not_false_eq_true, not_true_eq_false]; done) | (simp only [wk, wt, wl, ↓reduceIte, Nat.reduceEqDiff, Nat.reduceAdd, Nat.zero_add, not_false_eq_true, not_true_eq_false]; rfl)), (by first | rfl | (simp only [wk, wt, wl, ↓reduceIte, Nat.reduceEqDiff, Nat.reduceAdd, Nat.zero_add, not_false_eq_true, not_true_eq_false]; done) | (simp only [wk, wt, wl, ↓reduceIte, Nat.reduceEqDiff, Nat.reduceAdd, Nat.zero_add, not_false_eq_true, not_true_eq_false]; rfl)), (by first | rfl | (simp only [wk, wt, wl, ↓reduceIte, Nat.reduceEqDiff, Nat.reduceAdd, Nat.zero_add, not_false_eq_true, not_true_eq_false]; done) | (simp only [wk, wt, wl, ↓reduceIte, Nat.reduceEqDiff, Nat.reduceAdd, Nat.zero_add, not_false_eq_true, not_true_eq_false]; rfl)), Nat.le_refl _, by omega, Nat.le_refl _, ⟨Own.nil0, fun z e => (by cases e), fun p hp => (by cases hp)⟩, ⟨rfl, fun i a l ha => by simp at ha⟩, rfl, by simp, .inl rfl⟩ ?_
  rintro tm h' ⟨C, t0, i, f, ov, W, P, t5, t4, t3, hfi, hi, hWi, G, hD, hS, hno, hlast⟩
  have KK : Keeps h h' := (Keeps.refl H).step C fun y e => e
  have R' := R.keeps KK
  simp only [wk, wt, wl, ↓reduceIte, Nat.reduceEqDiff, Nat.reduceAdd, Nat.zero_add, not_false_eq_true, not_true_eq_false, t0, t5, R'.len underlying32]
  refine condK_dec (fun hd => ?_) (fun hd => ?_)
  · have hi1 : i < l.length := by omega
    have IX := RdI.index R' underlying32 asz5 (q := .i64) (i := (i : Int)) (by omega) (by omega)
    have AX := RdI.at R' (t := 5) underlying5 rfl hi1
    simp only [Int.toNat_natCast] at IX
    have htk : (l.drop f).take (i + 1 - f) = (l.drop f).take (i - f) ++ [l.getD i 0] := by
      rw [show i + 1 - f = (i - f) + 1 by omega, List.take_succ_eq_append_getElem (by rw [List.length_drop]; omega), List.getElem_drop]
      rw [getD_at hi1]; congr 2; simp only [show f + (i - f) = i by omega]
    by_cases hx : l.getD i 0 = 10
    · have SX := Rd.slice2 R' underlying32 asz5 (q := .i64) (q' := .i64) (i := (f : Int)) (j := (i : Int)) (by omega) (by omega) (by omega)
      simp only [Int.toNat_natCast] at SX
      have RX := RdI.part R' hfi (by omega : i ≤ l.length)
      have hpl : ((l.drop f).take (i - f)).length ≤ 262144 := by rw [List.length_take, List.length_drop]; omega
      simp only [wk, wt, wl, ↓reduceIte, Nat.reduceEqDiff, Nat.reduceAdd, Nat.zero_add, not_false_eq_true, not_true_eq_false, t0, t4, t5, t3, IX, AX, decide_eq_true hx, SX]
      refine (refDecode_new RX (fun x hx => hB x (List.mem_of_mem_drop (List.mem_of_mem_take hx))) (by omega)).use ?_
      rintro xv h2 ⟨lx, hdx, Rx, _, K2, hnx⟩
      obtain ⟨v4, h4, e4, G4, C4⟩ := G.add (Ch.wf C) (Ch.le C) K2 Rx hnx (by omega)
      simp only [wk, wt, wl, ↓reduceIte, Nat.reduceEqDiff, Nat.reduceAdd, Nat.zero_add, not_false_eq_true, not_true_eq_false, bi22 Rx.one, e4]
      simp (disch := omega) only [wk, wt, wl, ↓reduceIte, Nat.reduceEqDiff, Nat.reduceAdd, Nat.zero_add, not_false_eq_true, not_true_eq_false, t0, t4, t5, IntWalk.i64_in, intOf_int]
      have hsp : splitZ (l.drop f) 10 = (l.drop f).take (i - f) :: splitZ (l.drop (i + 1)) 10 := by
        have e : l.drop f = (l.drop f).take (i - f) ++ 10 :: l.drop (i + 1) := by
          have e1 := (List.take_append_drop (i - f) (l.drop f)).symm
          rw [List.drop_drop, show f + (i - f) = i by omega, List.drop_eq_getElem_cons hi1, ← getD_at (d := 0) hi1, hx] at e1
          exact e1
        rw [e, split_app hno]
        congr 1
        rw [List.take_append_of_le_length (by rw [List.length_take, List.length_drop]; omega), List.take_take, Nat.min_self]
      all_goals exact ⟨⟨C.then C4 fun y e => .inr e, i + 1, i + 1, v4, W ++ [(xv, lx)], P ++ [(l.drop f).take (i - f)], by simp, by simp, rfl, Nat.le_refl _, by omega, by simp; omega, G4, by rw [List.map_append]; exact hD.add hdx, by rw [hS, hsp]; simp, by simp, .inr (by simpa using hx)⟩, by omega⟩
    · simp only [wk, wt, wl, ↓reduceIte, Nat.reduceEqDiff, Nat.reduceAdd, Nat.zero_add, not_false_eq_true, not_true_eq_false, t0, t4, t5, t3, IX, AX, decide_eq_false hx]
      simp (disch := omega) only [wk, wt, wl, ↓reduceIte, Nat.reduceEqDiff, Nat.reduceAdd, Nat.zero_add, not_false_eq_true, not_true_eq_false, t0, t4, t5, t3, IntWalk.i64_in, intOf_int]
      all_goals exact ⟨⟨C, i + 1, f, ov, W, P, by simp, rfl, rfl, by omega, by omega, by omega, G, hD, hS, by rw [htk]; simp only [List.mem_append, List.mem_singleton, not_or]; exact ⟨hno, fun e => hx e.symm⟩, hlast⟩, by omega⟩
  · have hie : i = l.length := by omega
    have htf : (l.drop f).take (i - f) = l.drop f := List.take_of_length_le (by rw [List.length_drop]; omega)
    rw [htf] at hno
    have hSf : splitZ l 10 = P ++ [l.drop f] := by rw [hS, splitZ_none hno]
    by_cases c1 : (f : Int) < l.length ∨ (l.length : Int) = 0
    · have htr : trimZ l 10 = l := by
        unfold trimZ
        rw [if_neg]
        intro he
        by_cases h0 : 0 < l.length
        · rw [ends_iff h0] at he
          have hl10 := of_decide_eq_true he
          have hf : f < l.length := by omega
          refine hno ?_
          rw [← hl10, getD_at (by omega)]
          have : (l.drop f)[l.length - 1 - f]? = some (l[l.length - 1]'(by omega)) := by
            rw [List.getElem?_drop, show f + (l.length - 1 - f) = l.length - 1 by omega, List.getElem?_eq_getElem]
          exact List.mem_of_getElem? this
        · have := (of_decide_eq_true he).1; omega
      have SX := Rd.sliceLo R' underlying32 asz5 (q := .i64) (i := (f : Int)) (by omega) (by omega)
      simp only [Int.toNat_natCast] at SX
      have RX := RdI.partLo R' (L := f) (by omega)
      have fin : ∀ xv h2 lx, Keeps h' h2 → RDec (l.drop f) lx → RdI prog h2 .i32 xv lx → (∀ z, blkOf xv = some z → h'.size ≤ z) → ∃ v4 h4, aappend prog (h2.new 59 [xv]) 31 31 ov (.slice (some ⟨h2.size, 0, none⟩) 1 2) = some (v4, h4) ∧ ∃ W', RDecAll (splitZ (trimZ l 10) 10) W' ∧ LR h4 v4 W' ∧ Keeps h h4 := fun xv h2 lx K2 hdx Rx hnx => by
        obtain ⟨v4, h4, e4, G4, C4⟩ := G.add (Ch.wf C) (Ch.le C) K2 Rx hnx (by omega)
        refine ⟨v4, h4, e4, (W ++ [(xv, lx)]).map (·.2), ?_, G4.lr, KK.step C4 fun y e => e⟩
        rw [htr, hSf, List.map_append]
        exact hD.add hdx
      by_cases c2 : (f : Int) < l.length
      · simp only [wk, wt, wl, ↓reduceIte, Nat.reduceEqDiff, Nat.reduceAdd, Nat.zero_add, not_false_eq_true, not_true_eq_false, t0, t4, t3, R'.len underlying32, decide_eq_true c2, SX]
        refine (refDecode_new RX (fun x hx => hB x (List.mem_of_mem_drop hx)) (by rw [List.length_drop]; omega)).use ?_
        rintro xv h2 ⟨lx, hdx, Rx, _, K2, hnx⟩
        obtain ⟨v4, h4, e4, hfin⟩ := fin xv h2 lx K2 hdx Rx hnx
        simp only [wk, wt, wl, ↓reduceIte, Nat.reduceEqDiff, Nat.reduceAdd, Nat.zero_add, not_false_eq_true, not_true_eq_false, bi22 Rx.one, e4]
        all_goals exact hfin
      · have c3 : (l.length : Int) = 0 := by omega
        simp only [wk, wt, wl, ↓reduceIte, Nat.reduceEqDiff, Nat.reduceAdd, Nat.zero_add, not_false_eq_true, not_true_eq_false, t0, t4, t3, R'.len underlying32, decide_eq_false c2, decide_eq_true c3, SX]
        refine (refDecode_new RX (fun x hx => hB x (List.mem_of_mem_drop hx)) (by rw [List.length_drop]; omega)).use ?_
        rintro xv h2 ⟨lx, hdx, Rx, _, K2, hnx⟩
        obtain ⟨v4, h4, e4, hfin⟩ := fin xv h2 lx K2 hdx Rx hnx
        simp only [wk, wt, wl, ↓reduceIte, Nat.reduceEqDiff, Nat.reduceAdd, Nat.zero_add, not_false_eq_true, not_true_eq_false, bi22 Rx.one, e4]
        all_goals exact hfin
    · have c2 : ¬ (f : Int) < l.length := fun g => c1 (.inl g)
      have c3 : ¬ (l.length : Int) = 0 := fun g => c1 (.inr g)
      have hfl : f = l.length := by omega
      have hl10 : l.getD (l.length - 1) 0 = 10 := by
        rcases hlast with h0 | h0
        · omega
        · rw [hfl] at h0; exact h0
      have he : endsB l 10 = true := by rw [ends_iff (by omega)]; exact decide_eq_true hl10
      have hP : P = splitZ (trimZ l 10) 10 := by
        have htr : trimZ l 10 = l.take (l.length - 1) := by unfold trimZ; rw [if_pos he]
        have hsn : l.take (l.length - 1) ++ [10] = l := by
          have := List.take_succ_eq_append_getElem (l := l) (i := l.length - 1) (by omega)
          rw [show l.length - 1 + 1 = l.length by omega, List.take_length, ← getD_at (d := 0) (by omega), hl10] at this
          exact this.symm
        have := split_snoc (c := 10) (x := l.take (l.length - 1))
        rw [hsn, hSf, hfl, List.drop_length] at this
        rw [htr]
        exact List.append_cancel_right this
      simp only [wk, wt, wl, ↓reduceIte, Nat.reduceEqDiff, Nat.reduceAdd, Nat.zero_add, not_false_eq_true, not_true_eq_false, t0, t4, t3, R'.len underlying32, decide_eq_false c2, decide_eq_false c3]
      all_goals exact ⟨W.map (·.2), by rw [← hP]; exact hD, G.lr, KK⟩
end Go.Proofs.YtiebaefhlacekaaGreatDoor.Am
end
section
/- Files, the document's: set, by a walk. -/
set_option linter.unusedSimpArgs false
set_option linter.unusedVariables false
set_option maxHeartbeats 16000000
set_option maxRecDepth 20000
namespace Go.Proofs.YtiebaefhlacekaaGreatDoor.Am
open Go Go.RowKit Go.Proofs.Tryz
/-- Strings' order. -/
def ltB (a b : ByteArray) : Bool := Op.bytesLess a.toList b.toList
def setGo {α : Type} (s : ByteArray) (x : ByteArray × α) : List (ByteArray × α) → Bool → List (ByteArray × α)
  | [], put => if put = true then [] else [x]
  | e :: E, put => (if put = false ∧ ltB e.1 s = false then [x] else []) ++ (if e.1 = s then [] else [e]) ++ setGo s x E (put || !ltB e.1 s)
def setG {α : Type} (s : ByteArray) (v : α) (E : List (ByteArray × α)) : List (ByteArray × α) := setGo s (s, v) E false
inductive F2 {α β : Type} (R : α → β → Prop) : List α → List β → Prop
  | nil : F2 R [] []
  | cons {a : α} {b : β} {l : List α} {m : List β} : R a b → F2 R l m → F2 R (a :: l) (b :: m)
theorem F2.app {α β : Type} {R : α → β → Prop} {l l2 : List α} {m m2 : List β} (h : F2 R l m) (h2 : F2 R l2 m2) : F2 R (l ++ l2) (m ++ m2) := by
  induction h with
  | nil => exact h2
  | cons a _ ih => exact .cons a ih
theorem F2.len {α β : Type} {R : α → β → Prop} {l : List α} {m : List β} (h : F2 R l m) : l.length = m.length := by
  induction h with
  | nil => rfl
  | cons _ _ ih => simp [ih]
theorem F2.get {α β : Type} {R : α → β → Prop} {l : List α} {m : List β} (h : F2 R l m) : ∀ (i : Nat) a b, l[i]? = some a → m[i]? = some b → R a b := by
  induction h with
  | nil => intro i a b ha; simp at ha
  | cons r _ ih =>
    intro i a b ha hb
    cases i with
    | zero => simp at ha hb; subst ha; subst hb; exact r
    | succ i => exact ih i a b (by simpa using ha) (by simpa using hb)
theorem F2.of {α β : Type} {R : α → β → Prop} : ∀ {l : List α} {m : List β}, l.length = m.length → (∀ (i : Nat) a b, l[i]? = some a → m[i]? = some b → R a b) → F2 R l m
  | [], [], _, _ => .nil
  | [], b :: m, h, _ => by simp at h
  | a :: l, [], h, _ => by simp at h
  | a :: l, b :: m, hl, H => .cons (H 0 a b rfl rfl) (F2.of (by simpa using hl) fun i x y hx hy => H (i + 1) x y (by simpa using hx) (by simpa using hy))
theorem F2.mono {α β : Type} {R R' : α → β → Prop} {l : List α} {m : List β} (h : F2 R l m) (hr : ∀ a b, R a b → R' a b) : F2 R' l m := by
  induction h with
  | nil => exact .nil
  | cons r _ ih => exact .cons (hr _ _ r) ih
theorem setGo_rel {α β : Type} {R : (ByteArray × α) → (ByteArray × β) → Prop} (hk : ∀ a b, R a b → a.1 = b.1) {s : ByteArray} {x : ByteArray × α} {y : ByteArray × β} (hxy : R x y) {E : List (ByteArray × α)} {X : List (ByteArray × β)} (h : F2 R E X) : ∀ put, F2 R (setGo s x E put) (setGo s y X put) := by
  induction h with
  | nil =>
    intro put
    unfold setGo
    cases put
    · exact .cons hxy .nil
    · exact .nil
  | @cons a b l m r _ ih =>
    intro put
    unfold setGo
    rw [hk a b r]
    refine ((?_ : F2 R _ _).app ?_).app (ih _)
    · split
      · exact .cons hxy .nil
      · exact .nil
    · split
      · exact .nil
      · exact .cons r .nil
theorem setGo_len {α : Type} {s : ByteArray} {x : ByteArray × α} : ∀ {E : List (ByteArray × α)} {put : Bool}, (setGo s x E put).length ≤ E.length + 1
  | [], put => by unfold setGo; split <;> simp
  | e :: E, put => by
    have hd : ∀ E : List (ByteArray × α), (setGo s x E true).length ≤ E.length := fun E => by
      induction E with
      | nil => simp [setGo]
      | cons e E ih =>
        unfold setGo
        simp only [Bool.true_eq_false, false_and, if_false, List.nil_append, Bool.true_or, List.length_append, List.length_cons]
        split <;> simp <;> omega
    have ih := setGo_len (s := s) (x := x) (E := E) (put := put || !ltB e.1 s)
    unfold setGo
    simp only [List.length_append, List.length_cons]
    cases put with
    | true =>
      have := hd E
      simp only [Bool.true_eq_false, false_and, if_false, Bool.true_or] at ih ⊢
      split <;> simp <;> omega
    | false =>
      cases hl : ltB e.1 s with
      | true =>
        rw [hl] at ih
        simp only [Bool.true_eq_false, and_false, if_false, Bool.not_true, Bool.or_false] at ih ⊢
        split <;> simp <;> omega
      | false =>
        have := hd E
        simp only [and_self, if_true, Bool.not_false, Bool.or_true]
        split <;> simp <;> omega
theorem setGo_mem {α : Type} {s : ByteArray} {x : ByteArray × α} : ∀ {E : List (ByteArray × α)} {put : Bool} {e : ByteArray × α}, e ∈ setGo s x E put → e ∈ E ∨ e = x
  | [], put, e, h => by
    unfold setGo at h
    split at h
    · simp at h
    · simp at h; exact .inr h
  | a :: E, put, e, h => by
    unfold setGo at h
    rcases List.mem_append.1 h with h | h
    · rcases List.mem_append.1 h with h | h
      · split at h
        · simp at h; exact .inr h
        · simp at h
      · split at h
        · simp at h
        · simp at h; exact .inl (by rw [h]; simp)
    · exact (setGo_mem h).imp (List.mem_cons_of_mem _) id
theorem azero58 : azero prog 58 = some (Value.agg #[Value.string ⟨#[]⟩, Value.slice none 0 0]) := by kernel_rfl
theorem al58 {tm : Tm} {h : Heap} : aeff prog tm h (.alloc 58) = some (.pointer (some ⟨h.size, 0, none⟩), h.new 58 [Value.string ⟨#[]⟩, Value.slice none 0 0]) := alloc_eq azero58 asz58 (by kernel_rfl)
theorem geqf {a b : ByteArray} : abin prog .geq 9 (.string a) (.string b) = some (.bool (!ltB a b)) := by simp [abin, astr, ltB]
theorem str_nef {s : ByteArray} : abin prog .neq 9 (.string s) (.string s) = some (.bool false) := by simp [abin, astr]
theorem build_fi {s : ByteArray} {v : Value} (h1 : one v = true) : abuild prog 58 #[(0, .string s), (1, v)] = some (.agg #[.string s, v]) := by
  have e : v.cells = #[v] := one_cells h1
  have e2 : (Value.string s).cells = #[Value.string s] := rfl
  have e3 : ∀ a, (Value.agg a).cells = a := fun _ => rfl
  simp [abuild, wt, azero58, aplaces, Instr.fill, e, e2, e3]
theorem bfi {h : Heap} {s : ByteArray} {v : Value} (h1 : one v = true) : abuildSlice prog h 26 1 #[(0, .agg #[.string s, v])] = some (.slice (some ⟨h.size, 0, none⟩) 1 2, h.new 58 [.string s, v]) :=
  buildA2 underlying26 asz58 azero58 rfl one_string h1
section
variable {h h' : Heap} {xb : Nat} {Lv Nv : Value} {E : List (ByteArray × Value)} {X : List (ByteArray × List Int)} {fl : List Int}
theorem RK.agg (M : RK h xb Lv Nv E X fl) {i : Nat} {e : ByteArray × Value} (hi : E[i]? = some e) : aload prog h 58 (eltA Lv 2 i) = some (.agg #[.string e.1, e.2]) :=
  M.row.agg cFi_len (t := 58) underlying58 rfl asz58 hi
theorem RK.one (M : RK h xb Lv Nv E X fl) {i : Nat} {e : ByteArray × Value} (hi : E[i]? = some e) : one e.2 = true := by
  have hl : i < X.length := by have := (List.getElem?_eq_some_iff.1 hi).1; have := M.len; omega
  exact (M.ev i e X[i] hi (List.getElem?_eq_getElem hl)).2.1.one
theorem fresh_apart {b2 r2 : Nat} {fv2 : Value} (H : Wf h) (K : Keeps h h') (hlt : ∀ y, blkOf fv2 = some y → y < h.size) (hb2 : b2 < h.size) (hr2 : r2 < h.size) {z : Nat} (hz : h.size ≤ z) : ¬ FDi h' b2 r2 fv2 z := by
  rintro (e | e | ⟨y, hy, k1, k2, g1, g2, e⟩)
  · omega
  · omega
  · have hyl := hlt y hy
    rw [K.at hyl] at g2
    have := H.2 y k2 g2
    rcases K.2.2.2.1 z k1 hz g1 with h3 | ⟨_, _, e3, _⟩
    · omega
    · exact e3.elim
theorem RK.made {h8 : Heap} {av nv : Value} {s : ByteArray} {bs : List Int} (M : RK h xb Lv Nv E X fl) (H : Wf h) (K : Keeps h h') (V8 : Var h8 xb [av, Nv]) (C8 : Ch (fun x => x = xb) h' h8) (O : RS prog h' 2 cFi av (setG s nv E)) (hav : ∀ z, blkOf av = some z → h.size ≤ z)
    (hR : RdI prog h' .u8 nv bs) (hnv : ∀ z, blkOf nv = some z → h.size ≤ z) (hB : ∀ x, x ∈ bs → isB x) : RK h8 xb av Nv (setG s nv E) (setG s bs X) fl ∧ Ch (FDi h xb xb Nv) h h8 := by
  have M1 := M.keeps H K
  have hx := M.var.lt H
  have hle := Ch.le K
  have C : Ch (FDi h xb xb Nv) h h8 := (K.mono fun _ e => e.elim).then C8 fun y e => .inr (.inl e)
  have hn : ∀ z, blkOf Nv = some z → h'.size ≤ z ∨ blkOf Nv = some z := fun z e => .inr e
  have CF : Ch (FDi h' xb xb Nv) h' h8 := C8.mono fun y e => .inl e
  have stp : ∀ v, AP h' xb xb Nv v → AP h8 xb xb Nv v := fun v A => A.stepG M1.var (.inl rfl) M1.jlt (Ch.wf K) CF hn
  have frs : ∀ v, (∀ z, blkOf v = some z → h.size ≤ z ∧ z < h'.size) → AP h' xb xb Nv v := fun v hv z e => ⟨(hv z e).2, fresh_apart H K M.jlt hx hx (hv z e).1⟩
  have hxne : ∀ v, (∀ z, blkOf v = some z → h.size ≤ z) → ∀ z, blkOf v = some z → ¬ z = xb := fun v hv z e g => by have := hv z e; omega
  have F0 : F2 (fun (e : ByteArray × Value) (d : ByteArray × List Int) => e.1 = d.1 ∧ RdI prog h' .u8 e.2 d.2 ∧ AP h' xb xb Nv e.2 ∧ ∀ x, x ∈ d.2 → isB x) E X := F2.of M1.len M1.ev
  have FF := setGo_rel (fun a b r => r.1) (x := (s, nv)) (y := (s, bs)) (s := s) ⟨rfl, hR, frs nv fun z e => ⟨hnv z e, (hR.blk_lt e).1⟩, hB⟩ F0 false
  refine ⟨⟨V8, C8.rd O (hxne av hav), C8.ownR M1.own fun z e g => M.nb (by rw [e, g]), M.nb, stp _ (frs av fun z e => ⟨hav z e, (Rd.blk_lt O e).1⟩), FF.len, fun i e d he hd => ?_⟩, C⟩
  obtain ⟨q1, q2, q3, q4⟩ := FF.get i e d he hd
  exact ⟨q1, C8.rd q2 fun z e g => (q3 z e).2 (.inl g), stp _ q3, q4⟩
theorem set_ok {s : ByteArray} {bv : Value} {bs : List Int} (M : RK h xb Lv Nv E X fl) (hE : E.length ≤ 100000) (R : RdI prog h .u8 bv bs) (hB : ∀ x, x ∈ bs → isB x) (hl : bs.length ≤ 1048576) :
    ACalls prog 27 #[pt xb, .string s, bv] h (fun y h' => y = .tuple #[] ∧ ∃ Lv' nv, RK h' xb Lv' Nv (setG s nv E) (setG s bs X) fl ∧ Ch (FDi h xb xb Nv) h h' ∧ (∀ z, blkOf Lv' = some z → h.size ≤ z) ∧ ∀ z, blkOf nv = some z → h.size ≤ z) := by
  refine acalls_of_W' func27 rfl (by kernel_rfl) (by kernel_rfl) (by simp [ntmps27]) ?_
  intro H
  have O0 : Own prog h.size (h.new 5 []) 1 (.slice (some ⟨h.size, 0, none⟩) 0 1) 0 [] := Own.new H (Nat.le_refl _) asz5 (by simp)
  have K1 := Keeps.new H 5 []
  obtain ⟨v2, h2, e2, O2, R2, C2, hv⟩ := O0.appendRd (P := prog) (Ch.wf K1) (Ch.le K1) underlying32 underlying32 rfl elem5 fits5 (by decide) (R.keeps K1) (by omega)
  have hR2 : RdI prog h2 .u8 v2 bs := by
    have := O2.1
    rw [Nat.zero_add, List.nil_append] at this
    simpa [RdI] using this
  have hn2 : ∀ z, blkOf v2 = some z → h.size ≤ z := fun z e => by
    rcases hv with rfl | rfl | rfl
    · exact blk_new z e
    · cases e
    · exact Nat.le_of_succ_le (blk_new z e)
  have K2 := K1.step C2 fun b hb => hb.2
  have N3 := Keeps.new (Ch.wf K2) 58 [.string ⟨#[]⟩, .slice none 0 0]
  have V3 := Var.new (e := 58) (Ch.wf K2) (cs := [.string ⟨#[]⟩, .slice none 0 0])
  have hc2 : (Value.agg #[.string s, v2]).cells = #[.string s, v2] := rfl
  obtain ⟨h4, e4, V4, C4, z4⟩ := V3.store (P := prog) (t := 58) (v := .agg #[.string s, v2]) (i := 0) (Ch.wf N3) asz58 (by rw [hc2]; simp) (by rw [hc2]; simp [one_string, hR2.one])
  rw [hc2] at V4
  have hv4 : over [Value.string ⟨#[]⟩, Value.slice none 0 0] 0 (#[Value.string s, v2] : Array Value).toList = [.string s, v2] := over_all rfl
  rw [hv4] at V4
  have K4 := (K2.trans N3).step C4 fun b hb => by have := Ch.le K2; omega
  have hzb : h2.size < h4.size := V4.lt (Ch.wf C4)
  simp only [wk, wt, wl, ↓reduceIte, Nat.reduceEqDiff, Nat.reduceAdd, Nat.zero_add, not_false_eq_true, not_true_eq_false, build0 underlying32 asz5, e2, build_fi hR2.one, al58, e4]
  have LF := fun {hh : Heap} (V : Var hh h2.size [.string s, v2]) => V.loadA (P := prog) (t := 58) underlying58 rfl asz58
  have hR4 : RdI prog h4 .u8 v2 bs := C4.rd (hR2.keeps N3) fun z e d => by have := (hR2.blk_lt e).1; omega
  refine W_loop (fun tm h' => tm 0 = pt xb ∧ tm 1 = .string s ∧ tm 6 = pt h2.size ∧ Keeps h h' ∧ Var h' h2.size [.string s, v2] ∧ h4.size ≤ h'.size ∧ RdI prog h' .u8 v2 bs ∧ ∃ (i : Nat) (put : Bool) (A : List (ByteArray × Value)) (av : Value), tm 9 = .int .i64 i ∧ tm 8 = .bool put ∧ tm 7 = av ∧ i ≤ E.length ∧
      OS prog h4.size h' 2 cFi av A ∧ (∀ z, blkOf av = some z → h4.size ≤ z) ∧ A.length ≤ 2 * i ∧ setG s v2 E = A ++ setGo s (s, v2) (E.drop i) put) (fun tm _ => (E.length - intOf (tm 9)).toNat)
    ⟨(by first | rfl | (simp only [wk, wt, wl, ↓reduceIte, Nat.reduceEqDiff, Nat.reduceAdd, Nat.zero_add, not_false_eq_true, not_true_eq_false]; done) | (simp only [wk, wt, wl, ↓reduceIte, Nat.reduceEqDiff, Nat.reduceAdd, Nat.zero_add, not_false_eq_true, not_true_eq_false]; rfl)), (by first | rfl | (simp only [wk, wt, wl, ↓reduceIte, Nat.reduceEqDiff, Nat.reduceAdd, Nat.zero_add, not_false_eq_true, not_true_eq_false]; done) | (simp only [wk, wt, wl, ↓reduceIte, Nat.reduceEqDiff, Nat.reduceAdd, Nat.zero_add, not_false_eq_true, not_true_eq_false]; rfl)), (by first | rfl | (simp only [wk, wt, wl, ↓reduceIte, Nat.reduceEqDiff, Nat.reduceAdd, Nat.zero_add, not_false_eq_true, not_true_eq_false]; done) | (simp only [wk, wt, wl, ↓reduceIte, Nat.reduceEqDiff, Nat.reduceAdd, Nat.zero_add, not_false_eq_true, not_true_eq_false]; rfl)), K4, V4, Nat.le_refl _, hR4, 0, false, [], .slice none 0 0, (by first | rfl | (simp only [wk, wt, wl, ↓reduceIte, Nat.reduceEqDiff, Nat.reduceAdd, Nat.zero_add, not_false_eq_true, not_true_eq_false]; done) | (simp only [wk, wt, wl, ↓reduceIte, Nat.reduceEqDiff, Nat.reduceAdd, Nat.zero_add, not_false_eq_true, not_true_eq_false]; rfl)), (by first | rfl | (simp only [wk, wt, wl, ↓reduceIte, Nat.reduceEqDiff, Nat.reduceAdd, Nat.zero_add, not_false_eq_true, not_true_eq_false]; done) | (simp only [wk, wt, wl, ↓reduceIte, Nat.reduceEqDiff, Nat.reduceAdd, Nat.zero_add, not_false_eq_true, not_true_eq_false]; rfl)), (by first | rfl | (simp only [wk, wt, wl, ↓reduceIte, Nat.reduceEqDiff, Nat.reduceAdd, Nat.zero_add, not_false_eq_true, not_true_eq_false]; done) | (simp only [wk, wt, wl, ↓reduceIte, Nat.reduceEqDiff, Nat.reduceAdd, Nat.zero_add, not_false_eq_true, not_true_eq_false]; rfl)), by omega, OS.nil, fun z e => (by cases e), Nat.le_refl _, rfl⟩ ?_
  rintro tm h' ⟨t0, t1, t6, K, V, h4le, hRx, i, put, A, av, t9, t8, t7, hi, O, hfr, hA, hgo⟩
  have M' := M.keeps H K
  have MLx := M'.var.load1 (P := prog) (t := 26) underlying26 rfl (i := 0)
  simp only [List.getElem?_cons_zero] at MLx
  have hle := Ch.le K
  have hw := Ch.wf K
  have h1s := hR2.one
  simp only [wk, wt, wl, ↓reduceIte, Nat.reduceEqDiff, Nat.reduceAdd, Nat.zero_add, not_false_eq_true, not_true_eq_false, t0, t9, pt, MLx, M'.row.len underlying26]
  refine condK_dec (fun hd => ?_) (fun hd => ?_)
  · have hi1 : i < E.length := by omega
    obtain ⟨e, he⟩ : ∃ e, E[i]? = some e := ⟨E[i], List.getElem?_eq_getElem hi1⟩
    have hdr : E.drop i = e :: E.drop (i + 1) := by
      have := List.drop_eq_getElem_cons hi1
      rw [this]; congr 1
      have := List.getElem?_eq_getElem hi1
      rw [he] at this; exact (Option.some.inj this).symm
    have h1e := M'.one he
    obtain ⟨p0, p0', _⟩ := M'.fld he
    have IXy := Rd.index M'.row underlying26 asz58 (q := .i64) (i := (i : Int)) (by omega) (by omega)
    simp only [Int.toNat_natCast] at IXy
    cases put with
    | true =>
      simp only [wk, wt, wl, ↓reduceIte, Nat.reduceEqDiff, Nat.reduceAdd, Nat.zero_add, not_false_eq_true, not_true_eq_false, t8, Bool.not_true]
      have MM := M.keeps H K
      obtain ⟨q0, q0', _⟩ := MM.fld he
      have AGx := MM.agg he
      have MLx := MM.var.load1 (P := prog) (t := 26) underlying26 rfl (i := 0)
      simp only [List.getElem?_cons_zero] at MLx
      have IXx := Rd.index MM.row underlying26 asz58 (q := .i64) (i := (i : Int)) (by omega) (by omega)
      simp only [Int.toNat_natCast] at IXx
      by_cases hs : e.1 = s
      · rw [hs] at q0 q0'
        simp only [wk, wt, wl, ↓reduceIte, Nat.reduceEqDiff, Nat.reduceAdd, Nat.zero_add, not_false_eq_true, not_true_eq_false, t0, t1, t6, t9, pt, MLx, IXx, q0, q0', hs, str_nef]
        simp (disch := omega) only [wk, wt, wl, ↓reduceIte, Nat.reduceEqDiff, Nat.reduceAdd, Nat.zero_add, not_false_eq_true, not_true_eq_false, t0, t1, t6, t9, t7, IntWalk.i64_in, intOf_int]
        all_goals exact ⟨⟨K, V, h4le, hRx, i + 1, true, A, av, by simp, by first | rfl | exact t8, by first | rfl | exact t7, by omega, O, hfr, (by omega : A.length ≤ 2 * i + 2), by rw [hgo, hdr, setGo]; simp [hs, Bool.true_or]⟩, by omega⟩
      · have hnt : ¬ e.1.toList = s.toList := fun g => hs (ba_ext g)
        obtain ⟨v9, h9, e9, O9, C9, R9, ev9⟩ := OS.append1 (P := prog) hw h4le O underlying26 elem58 fits58 (by decide) (by decide) e rfl (by have := (by omega : A.length ≤ 2 * i + 2); omega)
        rw [show cFi e = [.string e.1, e.2] from rfl] at e9
        simp only [wk, wt, wl, ↓reduceIte, Nat.reduceEqDiff, Nat.reduceAdd, Nat.zero_add, not_false_eq_true, not_true_eq_false, t0, t1, t6, t9, t7, pt, MLx, IXx, q0, q0', AGx, decide_eq_true hnt, bfi h1e, e9]
        simp (disch := omega) only [wk, wt, wl, ↓reduceIte, Nat.reduceEqDiff, Nat.reduceAdd, Nat.zero_add, not_false_eq_true, not_true_eq_false, t0, t1, t6, t9, IntWalk.i64_in, intOf_int]
        all_goals exact ⟨⟨K.step C9 fun y d => by have := d.2; have := Ch.le K4; omega, Ch.var hw C9 V (fun d => by have := d.2; omega), Nat.le_trans h4le (Ch.le C9), C9.rd hRx (fun z e d => by have := d.2; have := (hR2.blk_lt e).1; omega), i + 1, true, A ++ [e], v9, by simp, by first | rfl | exact t8, rfl, by omega, O9, fun z hz => by rw [ev9] at hz; have := blk_at hz; have := h4le; omega, by have := (by omega : A.length ≤ 2 * i + 2); simp; omega, by rw [hgo, hdr, setGo]; simp [hs, Bool.true_or]⟩, by omega⟩
    | false =>
      cases hlt : ltB e.1 s with
      | true =>
        simp only [wk, wt, wl, ↓reduceIte, Nat.reduceEqDiff, Nat.reduceAdd, Nat.zero_add, not_false_eq_true, not_true_eq_false, t0, t1, t6, t9, t8, Bool.not_false, pt, MLx, IXy, p0, p0', geqf, hlt, Bool.not_true]
        have MM := M.keeps H K
        obtain ⟨q0, q0', _⟩ := MM.fld he
        have AGx := MM.agg he
        have MLx := MM.var.load1 (P := prog) (t := 26) underlying26 rfl (i := 0)
        simp only [List.getElem?_cons_zero] at MLx
        have IXx := Rd.index MM.row underlying26 asz58 (q := .i64) (i := (i : Int)) (by omega) (by omega)
        simp only [Int.toNat_natCast] at IXx
        by_cases hs : e.1 = s
        · rw [hs] at q0 q0'
          simp only [wk, wt, wl, ↓reduceIte, Nat.reduceEqDiff, Nat.reduceAdd, Nat.zero_add, not_false_eq_true, not_true_eq_false, t0, t1, t6, t9, pt, MLx, IXx, q0, q0', hs, str_nef]
          simp (disch := omega) only [wk, wt, wl, ↓reduceIte, Nat.reduceEqDiff, Nat.reduceAdd, Nat.zero_add, not_false_eq_true, not_true_eq_false, t0, t1, t6, t9, t7, IntWalk.i64_in, intOf_int]
          all_goals exact ⟨⟨K, V, h4le, hRx, i + 1, false, A, av, by simp, by first | rfl | exact t8, by first | rfl | exact t7, by omega, O, hfr, (by omega : A.length ≤ 2 * i + 2), by rw [hgo, hdr, setGo]; simp [hs, (hs ▸ hlt)]⟩, by omega⟩
        · have hnt : ¬ e.1.toList = s.toList := fun g => hs (ba_ext g)
          obtain ⟨v9, h9, e9, O9, C9, R9, ev9⟩ := OS.append1 (P := prog) hw h4le O underlying26 elem58 fits58 (by decide) (by decide) e rfl (by have := (by omega : A.length ≤ 2 * i + 2); omega)
          rw [show cFi e = [.string e.1, e.2] from rfl] at e9
          simp only [wk, wt, wl, ↓reduceIte, Nat.reduceEqDiff, Nat.reduceAdd, Nat.zero_add, not_false_eq_true, not_true_eq_false, t0, t1, t6, t9, t7, pt, MLx, IXx, q0, q0', AGx, decide_eq_true hnt, bfi h1e, e9]
          simp (disch := omega) only [wk, wt, wl, ↓reduceIte, Nat.reduceEqDiff, Nat.reduceAdd, Nat.zero_add, not_false_eq_true, not_true_eq_false, t0, t1, t6, t9, IntWalk.i64_in, intOf_int]
          all_goals exact ⟨⟨K.step C9 fun y d => by have := d.2; have := Ch.le K4; omega, Ch.var hw C9 V (fun d => by have := d.2; omega), Nat.le_trans h4le (Ch.le C9), C9.rd hRx (fun z e d => by have := d.2; have := (hR2.blk_lt e).1; omega), i + 1, false, A ++ [e], v9, by simp, by first | rfl | exact t8, rfl, by omega, O9, fun z hz => by rw [ev9] at hz; have := blk_at hz; have := h4le; omega, by have := (by omega : A.length ≤ 2 * i + 2); simp; omega, by rw [hgo, hdr, setGo]; simp [hs, hlt]⟩, by omega⟩
      | false =>
        have LF := V.loadA (P := prog) (t := 58) underlying58 rfl asz58
        obtain ⟨v5, h5, e5, O5, C5, R5, ev5⟩ := OS.append1 (P := prog) hw h4le O underlying26 elem58 fits58 (by decide) (by decide) (s, v2) rfl (by omega)
        rw [show cFi (s, v2) = [.string s, v2] from rfl] at e5
        have K5 := K.step C5 fun y d => by have := d.2; have := Ch.le K4; omega
        have V5 := Ch.var hw C5 V (fun d => by have := d.2; omega)
        have h5le := Nat.le_trans h4le (Ch.le C5)
        have hR5 := C5.rd hRx (fun z e d => by have := d.2; have := (hR2.blk_lt e).1; omega)
        have hf5 : ∀ z, blkOf v5 = some z → h4.size ≤ z := fun z hz => by rw [ev5] at hz; have := blk_at hz; omega
        have hw5 := Ch.wf C5
        have hl5 : (A ++ [(s, v2)]).length = A.length + 1 := by simp
        simp only [wk, wt, wl, ↓reduceIte, Nat.reduceEqDiff, Nat.reduceAdd, Nat.zero_add, not_false_eq_true, not_true_eq_false, t0, t1, t6, t9, t8, t7, Bool.not_false, pt, MLx, IXy, p0, p0', geqf, hlt, LF, bfi h1s, e5]
        have MM := M.keeps H K5
        obtain ⟨q0, q0', _⟩ := MM.fld he
        have AGx := MM.agg he
        have MLx := MM.var.load1 (P := prog) (t := 26) underlying26 rfl (i := 0)
        simp only [List.getElem?_cons_zero] at MLx
        have IXx := Rd.index MM.row underlying26 asz58 (q := .i64) (i := (i : Int)) (by omega) (by omega)
        simp only [Int.toNat_natCast] at IXx
        by_cases hs : e.1 = s
        · rw [hs] at q0 q0'
          simp only [wk, wt, wl, ↓reduceIte, Nat.reduceEqDiff, Nat.reduceAdd, Nat.zero_add, not_false_eq_true, not_true_eq_false, t0, t1, t6, t9, pt, MLx, IXx, q0, q0', hs, str_nef]
          simp (disch := omega) only [wk, wt, wl, ↓reduceIte, Nat.reduceEqDiff, Nat.reduceAdd, Nat.zero_add, not_false_eq_true, not_true_eq_false, t0, t1, t6, t9, t7, IntWalk.i64_in, intOf_int]
          all_goals exact ⟨⟨K5, V5, h5le, hR5, i + 1, true, (A ++ [(s, v2)]), v5, by simp, by first | rfl | exact t8, by first | rfl | exact t7, by omega, O5, hf5, (by rw [hl5]; omega : (A ++ [(s, v2)]).length ≤ 2 * i + 2), by rw [hgo, hdr, setGo]; simp [hs, (hs ▸ hlt)]⟩, by omega⟩
        · have hnt : ¬ e.1.toList = s.toList := fun g => hs (ba_ext g)
          obtain ⟨v9, h9, e9, O9, C9, R9, ev9⟩ := OS.append1 (P := prog) hw5 h5le O5 underlying26 elem58 fits58 (by decide) (by decide) e rfl (by have := (by rw [hl5]; omega : (A ++ [(s, v2)]).length ≤ 2 * i + 2); omega)
          rw [show cFi e = [.string e.1, e.2] from rfl] at e9
          simp only [wk, wt, wl, ↓reduceIte, Nat.reduceEqDiff, Nat.reduceAdd, Nat.zero_add, not_false_eq_true, not_true_eq_false, t0, t1, t6, t9, t7, pt, MLx, IXx, q0, q0', AGx, decide_eq_true hnt, bfi h1e, e9]
          simp (disch := omega) only [wk, wt, wl, ↓reduceIte, Nat.reduceEqDiff, Nat.reduceAdd, Nat.zero_add, not_false_eq_true, not_true_eq_false, t0, t1, t6, t9, IntWalk.i64_in, intOf_int]
          all_goals exact ⟨⟨K5.step C9 fun y d => by have := d.2; have := Ch.le K4; omega, Ch.var hw5 C9 V5 (fun d => by have := d.2; omega), Nat.le_trans h5le (Ch.le C9), C9.rd hR5 (fun z e d => by have := d.2; have := (hR2.blk_lt e).1; omega), i + 1, true, (A ++ [(s, v2)]) ++ [e], v9, by simp, by first | rfl | exact t8, rfl, by omega, O9, fun z hz => by rw [ev9] at hz; have := blk_at hz; have := h5le; omega, by have := (by rw [hl5]; omega : (A ++ [(s, v2)]).length ≤ 2 * i + 2); simp; omega, by rw [hgo, hdr, setGo]; simp [hs, hlt]⟩, by omega⟩
  · have hie : i = E.length := by omega
    have hdr : E.drop i = [] := List.drop_eq_nil_of_le (by omega)
    rw [hdr] at hgo
    cases put with
    | true =>
      have hS : setG s v2 E = A := by rw [hgo]; simp [setGo]
      obtain ⟨h8, e8, V8, C8, z8⟩ := M'.var.store1 (P := prog) (t := 26) (v := av) (i := 0) hw asz26 (by simp) O.1.one
      simp only [wk, wt, wl, ↓reduceIte, Nat.reduceEqDiff, Nat.reduceAdd, Nat.zero_add, not_false_eq_true, not_true_eq_false, t0, t7, t8, Bool.not_true, pt, e8]
      obtain ⟨g1, g2⟩ := M.made H K V8 C8 (nv := v2) (s := s) (bs := bs) (by rw [hS]; exact O.rs) (fun z e => by have := hfr z e; have := Ch.le K4; omega) hRx hn2 hB
      all_goals exact ⟨_, _, g1, g2, fun z e => by have := hfr z e; have := Ch.le K4; omega, hn2⟩
    | false =>
      have hS : setG s v2 E = A ++ [(s, v2)] := by rw [hgo]; simp [setGo]
      have LF := V.loadA (P := prog) (t := 58) underlying58 rfl asz58
      obtain ⟨v5, h5, e5, O5, C5, R5, ev5⟩ := OS.append1 (P := prog) hw h4le O underlying26 elem58 fits58 (by decide) (by decide) (s, v2) rfl (by omega)
      rw [show cFi (s, v2) = [.string s, v2] from rfl] at e5
      have K5 := K.step C5 fun y d => by have := d.2; have := Ch.le K4; omega
      have hR5 := C5.rd hRx (fun z e d => by have := d.2; have := (hR2.blk_lt e).1; omega)
      have hf5 : ∀ z, blkOf v5 = some z → h.size ≤ z := fun z hz => by rw [ev5] at hz; have := blk_at hz; omega
      obtain ⟨h8, e8, V8, C8, z8⟩ := (M.keeps H K5).var.store1 (P := prog) (t := 26) (v := v5) (i := 0) (Ch.wf C5) asz26 (by simp) O5.1.one
      simp only [wk, wt, wl, ↓reduceIte, Nat.reduceEqDiff, Nat.reduceAdd, Nat.zero_add, not_false_eq_true, not_true_eq_false, t0, t7, t8, Bool.not_false, pt, LF, t6, bfi h1s, e5, e8]
      obtain ⟨g1, g2⟩ := M.made H K5 V8 C8 (nv := v2) (s := s) (bs := bs) (by rw [hS]; exact O5.rs) hf5 hR5 hn2 hB
      all_goals exact ⟨_, _, g1, g2, hf5, hn2⟩
end
end Go.Proofs.YtiebaefhlacekaaGreatDoor.Am
end
section
/- Files, the document's: Write, Put, Bytes, Read, by walks. -/
set_option linter.unusedSimpArgs false
set_option linter.unusedVariables false
set_option maxHeartbeats 16000000
set_option maxRecDepth 20000
namespace Go.Proofs.YtiebaefhlacekaaGreatDoor.Am
open Go Go.RowKit Go.Proofs.Tryz
/-- What a deed of the document's leaves. -/
def ROut (h : Heap) (xb : Nat) (Lv Nv : Value) (E : List (ByteArray × Value)) (h' : Heap) (X' : List (ByteArray × List Int)) (fl' : List Int) : Prop :=
  ∃ Lv' Nv' E', RK h' xb Lv' Nv' E' X' fl' ∧ Ch (FDi h xb xb Nv) h h' ∧ (∀ z, blkOf Nv' = some z → h.size ≤ z ∨ blkOf Nv = some z) ∧ (∀ z, blkOf Lv' = some z → h.size ≤ z ∨ blkOf Lv = some z) ∧ ∀ e, e ∈ E' → e ∈ E ∨ ∀ z, blkOf e.2 = some z → h.size ≤ z
section
variable {h h' : Heap} {xb : Nat} {Lv Nv : Value} {E : List (ByteArray × Value)} {X : List (ByteArray × List Int)} {fl : List Int}
theorem ROut.keeps (M : RK h xb Lv Nv E X fl) (H : Wf h) (K : Keeps h h') : ROut h xb Lv Nv E h' X fl :=
  ⟨Lv, Nv, E, M.keeps H K, K.mono fun _ e => e.elim, fun z e => .inr e, fun z e => .inr e, fun e he => .inl he⟩
/-- A row of outcomes loses its first. -/
theorem RK.pop {m : Int} {t : List Int} (M : RK h xb Lv Nv E X (m :: t)) (H : Wf h) : ∃ nv h2, storeV prog h 27 (.pointer (some ⟨xb, 1, none⟩)) nv = some (undef, h2) ∧ sliceV Nv 1 1 (m :: t).length = nv ∧ blkOf nv = blkOf Nv ∧ RK h2 xb Lv nv E X t ∧ Ch (fun x => x = xb) h h2 := by
  have OX := M.own.part (L := 1) (H := (m :: t).length) (by simp) (Nat.le_refl _)
  have hbx : blkOf (sliceV Nv 1 1 (m :: t).length) = blkOf Nv := sliceV_blk
  obtain ⟨nv, hnv⟩ : ∃ nv, sliceV Nv 1 1 (m :: t).length = nv := ⟨_, rfl⟩
  rw [hnv] at OX hbx
  obtain ⟨h2, e2, V2, C2, z2⟩ := M.var.store1 (P := prog) (t := 27) (v := nv) (i := 1) H asz27 (by simp) OX.1.one
  simp only [List.set_cons_succ, List.set_cons_zero] at V2
  have C2F : Ch (FDi h xb xb Nv) h h2 := C2.mono fun x e => .inl e
  have hn2 : ∀ z, blkOf nv = some z → h.size ≤ z ∨ blkOf Nv = some z := fun z e => .inr (by rw [← hbx]; exact e)
  have stp : ∀ v, AP h xb xb Nv v → AP h2 xb xb nv v := fun v A => A.stepG M.var (.inl rfl) M.jlt H C2F hn2
  refine ⟨nv, h2, e2, hnv, hbx, ⟨V2, C2.rd M.row fun z e g => (M.aL z e).2 (.inl g), ?_, by rw [hbx]; exact M.nb, stp _ M.aL, M.len, fun i e d he hd => ?_⟩, C2⟩
  · have := Ch.ownR C2 OX fun z e e' => M.nb (by rw [← hbx, e, e'])
    have ht : ∀ l : List Value, l.length = t.length → l.take t.length = l := fun l e => List.take_of_length_le (by omega)
    simpa [Nat.mul_one, ht] using this
  · obtain ⟨q1, q2, q3, q4⟩ := M.ev i e d he hd
    exact ⟨q1, C2.rd q2 fun z e g => (q3 z e).2 (.inl g), stp _ q3, q4⟩
def refD (X : List (ByteArray × List Int)) (fl : List Int) (s : ByteArray) (b : List Int) : List (ByteArray × List Int) := if stoE X fl s b.length = 0 then setG s b X else X
def refP (X : List (ByteArray × List Int)) (s : ByteArray) (b : List Int) : List (ByteArray × List Int) := if roomZ X s b.length = 0 then setG s b X else X
theorem numZ_ne {e : Int} (h : e ≠ 0) : numZ e ≠ 0 := by
  unfold numZ
  rw [if_neg h]
  split
  · decide
  · split
    · decide
    · split <;> decide
theorem setG_mem {α : Type} {s : ByteArray} {v : α} {E : List (ByteArray × α)} {e : ByteArray × α} (h : e ∈ setG s v E) : e ∈ E ∨ e = (s, v) := setGo_mem h
theorem set_out {s : ByteArray} {bv : Value} {bs : List Int} {h1 : Heap} {Nv1 : Value} (C1 : Ch (FDi h xb xb Nv) h h1) (hb1 : blkOf Nv1 = blkOf Nv) (hj : ∀ y, blkOf Nv = some y → y < h.size) (M : RK h1 xb Lv Nv1 E X fl) (hE : E.length ≤ 100000) (R : RdI prog h1 .u8 bv bs) (hB : ∀ x, x ∈ bs → isB x) (hl : bs.length ≤ 1048576) :
    ACalls prog 27 #[pt xb, .string s, bv] h1 (fun y h' => y = .tuple #[] ∧ ROut h xb Lv Nv E h' (setG s bs X) fl) := by
  refine (set_ok M hE R hB hl).mono fun y h3 G => ?_
  obtain ⟨rfl, Lv', nv, M3, C3, f1, f2⟩ := G
  have hle := Ch.le C1
  refine ⟨rfl, Lv', Nv1, _, M3, ?_, fun z e => .inr (by rw [← hb1]; exact e), fun z e => .inl (by have := f1 z e; omega), fun e he => (setG_mem he).imp id fun q z hz => by rw [q] at hz; have := f2 z hz; omega⟩
  exact C1.then C3 fun x e => (FDi.back C1 (fun y e => hj y (by rw [← hb1]; exact e)) e).imp id fun F => F.imp id fun F => F.imp id fun F => FamV.congr hb1 F
theorem refOf_new {lv : Value} {L : List (List Int)} (hL : LR h lv L) (hr : ∀ i j, isR ((L.getD i []).getD j 0)) (hn : (encLs L).length ≤ 100000000) (hll : L.length ≤ 100000000) :
    ACalls prog 25 #[lv] h (fun y h' => RdI prog h' .u8 y (encLs L) ∧ Keeps h h' ∧ ∀ z, blkOf y = some z → h.size ≤ z) := by
  refine acalls_of_W' func25 rfl (by kernel_rfl) (by kernel_rfl) (by simp [ntmps25]) ?_
  intro H
  obtain ⟨vs, hR, hE⟩ := hL
  simp only [wk, wt, wl, ↓reduceIte, Nat.reduceEqDiff, Nat.reduceAdd, Nat.zero_add, not_false_eq_true, not_true_eq_false]
  refine W_loop (fun tm h' => Keeps h h' ∧ tm 0 = lv ∧ ∃ (i : Nat) (v : Value), tm 4 = .int .i64 i ∧ tm 3 = v ∧ i ≤ L.length ∧ Own prog h.size h' 1 v (encLs (L.take i)).length (bI (encLs (L.take i))) ∧ ∀ z, blkOf v = some z → h.size ≤ z) (fun tm _ => (L.length - intOf (tm 4)).toNat)
    ⟨Keeps.refl H, (by first | rfl | (simp only [wk, wt, wl, ↓reduceIte, Nat.reduceEqDiff, Nat.reduceAdd, Nat.zero_add, not_false_eq_true, not_true_eq_false]; done) | (simp only [wk, wt, wl, ↓reduceIte, Nat.reduceEqDiff, Nat.reduceAdd, Nat.zero_add, not_false_eq_true, not_true_eq_false]; rfl)), 0, .slice none 0 0, (by first | rfl | (simp only [wk, wt, wl, ↓reduceIte, Nat.reduceEqDiff, Nat.reduceAdd, Nat.zero_add, not_false_eq_true, not_true_eq_false]; done) | (simp only [wk, wt, wl, ↓reduceIte, Nat.reduceEqDiff, Nat.reduceAdd, Nat.zero_add, not_false_eq_true, not_true_eq_false]; rfl)), (by first | rfl | (simp only [wk, wt, wl, ↓reduceIte, Nat.reduceEqDiff, Nat.reduceAdd, Nat.zero_add, not_false_eq_true, not_true_eq_false]; done) | (simp only [wk, wt, wl, ↓reduceIte, Nat.reduceEqDiff, Nat.reduceAdd, Nat.zero_add, not_false_eq_true, not_true_eq_false]; rfl)), by omega, by simpa [encLs, bI] using Own.nil0, fun z e => (by cases e)⟩ ?_
  rintro tm h' ⟨K, t0, i, v, t4, t3, hi, O, hfr⟩
  have RK := hR.keeps K
  simp only [wk, wt, wl, ↓reduceIte, Nat.reduceEqDiff, Nat.reduceAdd, Nat.zero_add, not_false_eq_true, not_true_eq_false, t0, t4, RK.len underlying31]
  refine condK_dec (fun hd => ?_) (fun hd => ?_)
  · have hi1 : i < L.length := by omega
    obtain ⟨hEi, hvi⟩ := hE i hi1
    have hat := encLs_at hi1
    have hge := encL_ge (L.getD i [])
    simp (disch := omega) only [wk, wt, wl, ↓reduceIte, Nat.reduceEqDiff, Nat.reduceAdd, Nat.zero_add, not_false_eq_true, not_true_eq_false, t0, t4, t3, RK.index underlying31 asz59 (q := .i64) (i := (i : Int)), Int.toNat_natCast, RK.at0 (t := 59) underlying59 rfl hi1 (by decide), Nat.mul_one, hvi]
    refine (refEncode_ok (hEi.keeps K) (by omega) (hr i)).use ?_
    rintro v2 h2 ⟨O2, K2⟩
    have KK := K.trans K2
    obtain ⟨v3, h3, e3, O3, R3, C3, hv3⟩ := (O.keeps K2).appendRd (P := prog) (Ch.wf KK) (Ch.le KK) underlying32 underlying32 rfl elem5 fits5 (by decide) O2 (by omega)
    have K3 := KK.step C3 fun b hb => hb.2
    obtain ⟨v4, h4, e4, O4, C4, R4, hv4, _⟩ := O3.append1 (P := prog) (Ch.wf C3) (Ch.le K3) underlying32 elem5 fits5 (by decide) (by decide) (xs := [.int .u8 10]) rfl (by omega)
    have K4 := K3.step C4 fun b hb => hb.2
    simp (disch := omega) only [wk, wt, wl, ↓reduceIte, Nat.reduceEqDiff, Nat.reduceAdd, Nat.zero_add, not_false_eq_true, not_true_eq_false, t0, t4, t3, e3, bi8, e4, IntWalk.i64_in, intOf_int]
    refine ⟨⟨K4, i + 1, v4, by simp, rfl, by omega, ?_, fun z e => by rw [hv4] at e; have := blk_at e; have := Ch.le K3; omega⟩, by omega⟩
    rw [encLs_next hi1, bI_append, bI_append, List.length_append, List.length_append]
    exact O4
  · have he : L.take i = L := List.take_of_length_le (by omega)
    rw [he] at O
    simp only [wk, wt, wl, ↓reduceIte, Nat.reduceEqDiff, Nat.reduceAdd, Nat.zero_add, not_false_eq_true, not_true_eq_false, t3]
    all_goals exact ⟨O.rdI, K, hfr⟩
theorem refWrite_ok {s : ByteArray} {lv : Value} {L : List (List Int)} (M : RK h xb Lv Nv E X fl) (hE : E.length ≤ 1000) (hs : s.size ≤ 1000000000000) (hL : LR h lv L) (hr : ∀ i j, isR ((L.getD i []).getD j 0)) (hn : (encLs L).length ≤ 1000000) (hll : L.length ≤ 1000000) (hfl : fl.length ≤ 1000000) :
    ACalls prog 12 #[pt xb, .string s, lv] h (fun y h' => y = .tuple #[.int .i64 (stoN X fl s (encLs L).length), .int .i64 (numZ (stoE X fl s (encLs L).length))] ∧ ROut h xb Lv Nv E h' (refD X fl s (encLs L)) (stoF X fl s (encLs L).length)) := by
  refine acalls_of_W' func12 rfl (by kernel_rfl) (by kernel_rfl) (by simp [ntmps12]) ?_
  intro H
  simp only [wk, wt, wl, ↓reduceIte, Nat.reduceEqDiff, Nat.reduceAdd, Nat.zero_add, not_false_eq_true, not_true_eq_false]
  refine (refOf_new hL hr (by omega) (by omega)).use ?_
  obtain ⟨Y, hY⟩ : ∃ Y, encLs L = Y := ⟨_, rfl⟩
  have hYB : ∀ y, y ∈ Y → isB y := by rw [← hY]; exact encLs_isB
  rw [hY] at hn ⊢
  rintro bv h1 ⟨R1, K1, hf1⟩
  have M1 := M.keeps H K1
  have LB := Rd.len R1 underlying32
  have C1 : Ch (FDi h xb xb Nv) h h1 := K1.mono fun _ e => e.elim
  simp only [wk, wt, wl, ↓reduceIte, Nat.reduceEqDiff, Nat.reduceAdd, Nat.zero_add, not_false_eq_true, not_true_eq_false, LB]
  refine (refRoom_ok M1 (by omega) hs).use_pure ?_
  by_cases hz : roomZ X s Y.length = 0
  · have MF := M1.var.load1 (P := prog) (t := 27) underlying27 rfl (i := 1)
    simp only [List.getElem?_cons_zero, List.getElem?_cons_succ] at MF
    have LF := Rd.len M1.own.1 underlying27
    have n0 : numZ 0 = 0 := rfl
    have nd : decide (¬ (0 : Int) = 0) = false := rfl
    cases fl with
    | nil =>
      have eE : stoE X [] s Y.length = 0 := by unfold stoE; rw [if_neg (fun g => g hz)]
      have eN : stoN X [] s Y.length = Y.length := by unfold stoN; rw [if_neg (fun g => g hz)]
      have eF : stoF X [] s Y.length = [] := by unfold stoF; rw [if_neg (fun g => g hz)]; rfl
      have d0 : decide ((0 : Int) < ((0 : Nat) : Int)) = false := rfl
      have d1 : decide ((0 : Int) ≤ -1) = false := rfl
      have eD : refD X [] s Y = setG s Y X := by unfold refD; rw [if_pos eE]
      rw [eE, eN, eF, eD]
      simp only [List.length_nil] at LF
      simp only [wk, wt, wl, ↓reduceIte, Nat.reduceEqDiff, Nat.reduceAdd, Nat.zero_add, not_false_eq_true, not_true_eq_false, hz, n0, nd, pt, MF, LF, d0, d1, LB]
      refine (set_out C1 rfl M.jlt M1 (by omega) R1 hYB (by omega)).use ?_
      rintro _ h3 ⟨rfl, O3⟩
      simp only [wk, wt, wl, ↓reduceIte, Nat.reduceEqDiff, Nat.reduceAdd, Nat.zero_add, not_false_eq_true, not_true_eq_false, LB]
      all_goals exact O3
    | cons m t =>
      have eE : stoE X (m :: t) s Y.length = if 0 ≤ m ∧ m < Y.length then 4 else 0 := by unfold stoE; rw [if_neg (fun g => g hz)]
      have eN : stoN X (m :: t) s Y.length = if 0 ≤ m ∧ m < Y.length then m else Y.length := by unfold stoN; rw [if_neg (fun g => g hz)]
      have eF : stoF X (m :: t) s Y.length = t := by unfold stoF; rw [if_neg (fun g => g hz)]; rfl
      have d0 : decide ((0 : Int) < (((m :: t).length : Nat) : Int)) = true := decide_eq_true (by simp only [List.length_cons]; omega)
      have hlf : 0 < (m :: t).length := by simp
      have IX := Rd.index M1.own.1 underlying27 asz3 (q := .i64) (i := (0 : Int)) (by omega) (by simp)
      have AX := Rd.at0 M1.own.1 (t := 3) underlying3 rfl hlf (by decide)
      simp only [Nat.zero_mul, List.map_cons, List.getElem?_cons_zero] at AX
      simp only [Int.toNat_zero] at IX
      have SX := Rd.sliceLo M1.own.1 underlying27 asz3 (q := .i64) (i := (1 : Int)) (by omega) (by simp only [List.length_cons]; omega)
      simp only [Int.toNat_one] at SX
      obtain ⟨nv, h2, e2, hnv, hbx, M2, C2⟩ := M1.pop (Ch.wf K1)
      rw [hnv] at SX
      have C12 : Ch (FDi h xb xb Nv) h h2 := C1.then C2 fun x e => .inr (.inl e)
      have hxl := M.var.lt H
      have R2 : RdI prog h2 .u8 bv Y := C2.rd R1 fun z e g => by have := hf1 z e; omega
      have hout : ROut h xb Lv Nv E h2 X t := ⟨Lv, nv, E, M2, C12, fun z e => .inr (by rw [← hbx]; exact e), fun z e => .inr e, fun e he => .inl he⟩
      by_cases c1 : 0 ≤ m
      · by_cases c2 : m < Y.length
        · have eD : refD X (m :: t) s Y = X := by unfold refD; rw [if_neg (by rw [eE, if_pos ⟨c1, c2⟩]; decide)]
          rw [eE, eN, eF, eD, if_pos ⟨c1, c2⟩, if_pos ⟨c1, c2⟩]
          simp only [wk, wt, wl, ↓reduceIte, Nat.reduceEqDiff, Nat.reduceAdd, Nat.zero_add, not_false_eq_true, not_true_eq_false, hz, n0, nd, pt, MF, LF, IX, AX, SX, e2, d0, decide_eq_true c1, decide_eq_true c2, LB]
          all_goals exact ⟨rfl, hout⟩
        · have eD : refD X (m :: t) s Y = setG s Y X := by unfold refD; rw [if_pos (by rw [eE, if_neg (fun g => c2 g.2)])]
          rw [eE, eN, eF, eD, if_neg (fun g => c2 g.2), if_neg (fun g => c2 g.2)]
          simp only [wk, wt, wl, ↓reduceIte, Nat.reduceEqDiff, Nat.reduceAdd, Nat.zero_add, not_false_eq_true, not_true_eq_false, hz, n0, nd, pt, MF, LF, IX, AX, SX, e2, d0, decide_eq_true c1, decide_eq_false c2, LB]
          refine (set_out C12 hbx M.jlt M2 (by omega) R2 hYB (by omega)).use ?_
          rintro _ h3 ⟨rfl, O3⟩
          simp only [wk, wt, wl, ↓reduceIte, Nat.reduceEqDiff, Nat.reduceAdd, Nat.zero_add, not_false_eq_true, not_true_eq_false, LB]
          all_goals exact O3
      · have eD : refD X (m :: t) s Y = setG s Y X := by unfold refD; rw [if_pos (by rw [eE, if_neg (fun g => c1 g.1)])]
        rw [eE, eN, eF, eD, if_neg (fun g => c1 g.1), if_neg (fun g => c1 g.1)]
        simp only [wk, wt, wl, ↓reduceIte, Nat.reduceEqDiff, Nat.reduceAdd, Nat.zero_add, not_false_eq_true, not_true_eq_false, hz, n0, nd, pt, MF, LF, IX, AX, SX, e2, d0, decide_eq_false c1, LB]
        refine (set_out C12 hbx M.jlt M2 (by omega) R2 hYB (by omega)).use ?_
        rintro _ h3 ⟨rfl, O3⟩
        simp only [wk, wt, wl, ↓reduceIte, Nat.reduceEqDiff, Nat.reduceAdd, Nat.zero_add, not_false_eq_true, not_true_eq_false, LB]
        all_goals exact O3
  · have hE0 : stoE X fl s Y.length = roomZ X s Y.length := by unfold stoE; rw [if_pos hz]
    have hN0 : stoN X fl s Y.length = 0 := by unfold stoN; rw [if_pos hz]
    have hF0 : stoF X fl s Y.length = fl := by unfold stoF; rw [if_pos hz]
    have hD0 : refD X fl s Y = X := by unfold refD; rw [if_neg (by rw [hE0]; exact hz)]
    rw [hE0, hN0, hF0, hD0]
    simp only [wk, wt, wl, ↓reduceIte, Nat.reduceEqDiff, Nat.reduceAdd, Nat.zero_add, not_false_eq_true, not_true_eq_false, decide_eq_true (numZ_ne hz)]
    all_goals exact ROut.keeps M H K1
theorem refPut_ok {s : ByteArray} {v : Value} {l : List Int} (M : RK h xb Lv Nv E X fl) (hE : E.length ≤ 1000) (hs : s.size ≤ 1000000000000) (R : RdI prog h .u8 v l) (hB : ∀ y, y ∈ l → isB y) (hl : l.length ≤ 1000000) :
    ACalls prog 17 #[pt xb, .string s, v] h (fun y h' => y = .int .i64 (numZ (roomZ X s l.length)) ∧ ROut h xb Lv Nv E h' (refP X s l) fl) := by
  refine acalls_of_W' func17 rfl (by kernel_rfl) (by kernel_rfl) (by simp [ntmps17]) ?_
  intro H
  simp only [wk, wt, wl, ↓reduceIte, Nat.reduceEqDiff, Nat.reduceAdd, Nat.zero_add, not_false_eq_true, not_true_eq_false, Rd.len R underlying32]
  refine (refRoom_ok M (by omega) hs).use_pure ?_
  have C1 : Ch (FDi h xb xb Nv) h h := (Keeps.refl H).mono fun _ e => e.elim
  have n0 : numZ 0 = 0 := rfl
  by_cases hz : roomZ X s l.length = 0
  · have eD : refP X s l = setG s l X := by unfold refP; rw [if_pos hz]
    rw [eD, hz]
    simp only [wk, wt, wl, ↓reduceIte, Nat.reduceEqDiff, Nat.reduceAdd, Nat.zero_add, not_false_eq_true, not_true_eq_false, hz, n0, dK_t, decide_true]
    refine (set_out C1 rfl M.jlt M (by omega) R hB (by omega)).use ?_
    rintro _ h3 ⟨rfl, O3⟩
    simp only [wk, wt, wl, ↓reduceIte, Nat.reduceEqDiff, Nat.reduceAdd, Nat.zero_add, not_false_eq_true, not_true_eq_false]
    all_goals exact O3
  · have eD : refP X s l = X := by unfold refP; rw [if_neg hz]
    rw [eD]
    simp only [wk, wt, wl, ↓reduceIte, Nat.reduceEqDiff, Nat.reduceAdd, Nat.zero_add, not_false_eq_true, not_true_eq_false, decide_eq_false (numZ_ne hz)]
    all_goals exact ROut.keeps M H (Keeps.refl H)
theorem refBytes_ok {s : ByteArray} (M : RK h xb Lv Nv E X fl) (hE : E.length ≤ 1000) (hs : s.size ≤ 1000000000000) :
    ACalls prog 19 #[pt xb, .string s] h (fun y h' => h' = h ∧ ∃ v, y = .tuple #[v, .int .i64 (numZ (bytE X s))] ∧ RdI prog h .u8 v (bytL X s) ∧ ∀ x, x ∈ bytL X s → isB x) := by
  refine acalls_of_W func19 rfl (by kernel_rfl) (by kernel_rfl) (by simp [ntmps19]) ?_
  simp only [wk, wt, wl, ↓reduceIte, Nat.reduceEqDiff, Nat.reduceAdd, Nat.zero_add, not_false_eq_true, not_true_eq_false]
  refine (refName_ok hs).use_pure ?_
  have hf := M.names s
  cases hn : nameB s with
  | false =>
    have e1 : bytE X s = 1 := by unfold bytE; rw [if_pos hn]
    have e2 : bytL X s = [] := by unfold bytL; rw [if_pos hn]
    rw [e1, e2]
    simp only [wk, wt, wl, ↓reduceIte, Nat.reduceEqDiff, Nat.reduceAdd, Nat.zero_add, not_false_eq_true, not_true_eq_false, Bool.not_false]
    all_goals exact ⟨_, rfl, Rd.nil0, by simp⟩
  | true =>
    simp only [wk, wt, wl, ↓reduceIte, Nat.reduceEqDiff, Nat.reduceAdd, Nat.zero_add, not_false_eq_true, not_true_eq_false, Bool.not_true]
    refine (find_ok M (by omega)).use_pure ?_
    unfold findI
    cases hx : findD s X with
    | none =>
      have hg : getD' X s = none := by unfold getD'; rw [hx]; rfl
      have e1 : bytE X s = 3 := by unfold bytE; rw [if_neg (by rw [hn]; decide), hg]
      have e2 : bytL X s = [] := by unfold bytL; rw [if_neg (by rw [hn]; decide), hg]
      rw [e1, e2]
      have d : decide ((-1 : Int) < 0) = true := rfl
      simp only [wk, wt, wl, ↓reduceIte, Nat.reduceEqDiff, Nat.reduceAdd, Nat.zero_add, not_false_eq_true, not_true_eq_false, d]
      all_goals exact ⟨_, rfl, Rd.nil0, by simp⟩
    | some i =>
      rw [hx] at hf
      obtain ⟨u, hu⟩ := findS_lt hf
      have hi : i < E.length := (List.getElem?_eq_some_iff.1 hu).1
      obtain ⟨d, hd⟩ : ∃ d, X[i]? = some d := ⟨X[i]'(by have := M.len; omega), List.getElem?_eq_getElem _⟩
      obtain ⟨q1, q2, q3, q4⟩ := M.ev i _ d hu hd
      have hg : getD' X s = some d.2 := by unfold getD'; rw [hx]; simp [hd]
      have e1 : bytE X s = 0 := by unfold bytE; rw [if_neg (by rw [hn]; decide), hg]
      have e2 : bytL X s = d.2 := by unfold bytL; rw [if_neg (by rw [hn]; decide), hg]
      rw [e1, e2]
      have ML := M.var.load1 (P := prog) (t := 26) underlying26 rfl (i := 0)
      simp only [List.getElem?_cons_zero] at ML
      obtain ⟨_, _, p1⟩ := M.fld hu
      have IX := Rd.index M.row underlying26 asz58 (q := .i64) (i := (i : Int)) (by omega) (by omega)
      simp only [Int.toNat_natCast] at IX
      have d : decide ((i : Int) < 0) = false := decide_eq_false (by omega)
      simp only [wk, wt, wl, ↓reduceIte, Nat.reduceEqDiff, Nat.reduceAdd, Nat.zero_add, not_false_eq_true, not_true_eq_false, d, pt, ML, IX, p1]
      all_goals exact ⟨_, rfl, q2, q4⟩
/-- What the document's Read answers. -/
def RReadQ (X : List (ByteArray × List Int)) (W : List (List Int)) (s : ByteArray) (h : Heap) (y : Value) (h' : Heap) : Prop :=
  Keeps h h' ∧ (bytE X s ≠ 0 ∧ y = .tuple #[.slice none 0 0, .int .i64 (numZ (bytE X s))] ∨ bytE X s = 0 ∧
    ((65536 < (sumL W : Int) - 1 ∧ y = .tuple #[.slice none 0 0, .int .i64 3]) ∨ ¬ 65536 < (sumL W : Int) - 1 ∧ ∃ v, y = .tuple #[v, .int .i64 0] ∧ LR h' v W))
theorem sumL_lens {W : List (List Int)} : sumL W = W.length + lenS W := by
  induction W with
  | nil => rfl
  | cons a W ih => simp only [sumL, lenS, List.map_cons, List.sum_cons, List.length_cons] at ih ⊢; omega
theorem refRead_ok {s : ByteArray} {W : List (List Int)} (M : RK h xb Lv Nv E X fl) (hE : E.length ≤ 1000) (hs : s.size ≤ 1000000000000) (hl : (bytL X s).length ≤ 262144) (hW : bytE X s = 0 → DecAll (splitZ (trimZ (bytL X s) 10) 10) W) :
    ACalls prog 14 #[pt xb, .string s] h (fun y h' => RReadQ X W s h y h') := by
  refine acalls_of_W' func14 rfl (by kernel_rfl) (by kernel_rfl) (by simp [ntmps14]) ?_
  intro H
  simp only [wk, wt, wl, ↓reduceIte, Nat.reduceEqDiff, Nat.reduceAdd, Nat.zero_add, not_false_eq_true, not_true_eq_false]
  refine (refBytes_ok M hE hs).use ?_
  rintro _ h1 ⟨rfl, v, rfl, R, hB⟩
  have n0 : numZ 0 = 0 := rfl
  have nd : decide (¬ (0 : Int) = 0) = false := rfl
  by_cases hz : bytE X s = 0
  · simp only [wk, wt, wl, ↓reduceIte, Nat.reduceEqDiff, Nat.reduceAdd, Nat.zero_add, not_false_eq_true, not_true_eq_false, hz, n0, nd]
    refine (lines_ok R hB hl).use ?_
    rintro lv h2 ⟨W', hD, hLR, K2⟩
    have hWW : W = W' := (hW hz).rdec hD
    subst hWW
    have hsum := (hW hz).sum
    rw [sumL_split, sumL_lens] at hsum
    have htr : (trimZ (bytL X s) 10).length ≤ (bytL X s).length := by unfold trimZ; split <;> simp
    simp only [wk, wt, wl, ↓reduceIte, Nat.reduceEqDiff, Nat.reduceAdd, Nat.zero_add, not_false_eq_true, not_true_eq_false]
    refine (refRunes_ok hLR (by omega)).use_pure ?_
    have hr : (65536 : Int) < runesN W ↔ 65536 < (sumL W : Int) - 1 := by
      rw [sumL_lens]; unfold runesN; split <;> omega
    by_cases c : (65536 : Int) < (sumL W : Int) - 1
    · simp only [wk, wt, wl, ↓reduceIte, Nat.reduceEqDiff, Nat.reduceAdd, Nat.zero_add, not_false_eq_true, not_true_eq_false, decide_eq_true (hr.2 c)]
      all_goals exact ⟨K2, .inr ⟨hz, .inl ⟨c, rfl⟩⟩⟩
    · simp only [wk, wt, wl, ↓reduceIte, Nat.reduceEqDiff, Nat.reduceAdd, Nat.zero_add, not_false_eq_true, not_true_eq_false, decide_eq_false (fun g => c (hr.1 g))]
      all_goals exact ⟨K2, .inr ⟨hz, .inr ⟨c, _, rfl, hLR⟩⟩⟩
  · simp only [wk, wt, wl, ↓reduceIte, Nat.reduceEqDiff, Nat.reduceAdd, Nat.zero_add, not_false_eq_true, not_true_eq_false, decide_eq_true (numZ_ne hz)]
    all_goals exact ⟨Keeps.refl H, .inl ⟨hz, rfl⟩⟩
end
end Go.Proofs.YtiebaefhlacekaaGreatDoor.Am
end
section
/- Files and the document's files side by side in memory. -/
set_option linter.unusedSimpArgs false
set_option linter.unusedVariables false
set_option maxHeartbeats 8000000
set_option maxRecDepth 20000
namespace Go.Proofs.YtiebaefhlacekaaGreatDoor.Am
open Go Go.RowKit Go.Proofs.Tryz
def TS (b r : Nat) (fv : Value) (es : List (ByteArray × Value)) (z : Nat) : Prop := z = b ∨ z = r ∨ blkOf fv = some z ∨ ∃ e, e ∈ es ∧ blkOf e.2 = some z
def TX (xb : Nat) (Lv Nv : Value) (E : List (ByteArray × Value)) (z : Nat) : Prop := z = xb ∨ blkOf Nv = some z ∨ blkOf Lv = some z ∨ ∃ e, e ∈ E ∧ blkOf e.2 = some z
section
variable {h0 h h' : Heap} {b r : Nat} {fv fv' : Value} {fl fl' : List Int} {es es' : List (ByteArray × Value)} {D D' : List (ByteArray × List Int)} {xb : Nat} {Lv Nv Lv' Nv' : Value} {E E' : List (ByteArray × Value)} {X X' : List (ByteArray × List Int)} {fl2 fl2' : List Int} {G : Nat → Prop}
theorem DV.mem (V : DV h b r fv es D) {e : ByteArray × Value} (he : e ∈ es) : ∃ (i : Nat) (d : ByteArray × List Int), es[i]? = some e ∧ D[i]? = some d ∧ RdI prog h .u8 e.2 d.2 := by
  obtain ⟨i, hi, rfl⟩ := List.getElem_of_mem he
  have hD : i < D.length := by rw [← V.1]; exact hi
  exact ⟨i, D[i], List.getElem?_eq_getElem hi, List.getElem?_eq_getElem hD, (V.2 i _ _ (List.getElem?_eq_getElem hi) (List.getElem?_eq_getElem hD)).2.1⟩
theorem RK.mem (M : RK h xb Lv Nv E X fl) {e : ByteArray × Value} (he : e ∈ E) : ∃ (i : Nat) (d : ByteArray × List Int), E[i]? = some e ∧ X[i]? = some d ∧ RdI prog h .u8 e.2 d.2 := by
  obtain ⟨i, hi, rfl⟩ := List.getElem_of_mem he
  have hD : i < X.length := by rw [← M.len]; exact hi
  exact ⟨i, X[i], List.getElem?_eq_getElem hi, List.getElem?_eq_getElem hD, (M.ev i _ _ (List.getElem?_eq_getElem hi) (List.getElem?_eq_getElem hD)).2.1⟩
theorem TS.lt (M : FK h b r fv fl es) (V : DV h b r fv es D) (H : Wf h) {z : Nat} (hz : TS b r fv es z) : z < h.size := by
  rcases hz with rfl | rfl | e | ⟨e, he, hb⟩
  · exact M.var.lt H
  · exact M.lt
  · exact M.jlt z e
  · obtain ⟨i, d, _, _, R⟩ := V.mem he
    exact (R.blk_lt hb).1
theorem TX.lt (M : RK h xb Lv Nv E X fl) (H : Wf h) {z : Nat} (hz : TX xb Lv Nv E z) : z < h.size := by
  rcases hz with rfl | e | e | ⟨e, he, hb⟩
  · exact M.var.lt H
  · exact M.jlt z e
  · exact (M.aL z e).1
  · obtain ⟨i, d, _, _, R⟩ := M.mem he
    exact (R.blk_lt hb).1
theorem RK.any (M : RK h xb Lv Nv E X fl) (H : Wf h) (C : Ch G h h') (hd : ∀ z, TX xb Lv Nv E z → ¬ G z) : RK h' xb Lv Nv E X fl := by
  have stp : ∀ v, AP h xb xb Nv v → AP h' xb xb Nv v := fun v A z e => ⟨Nat.lt_of_lt_of_le (A z e).1 (Ch.le C), old_apart C M.jlt (A z e).1 (A z e).2⟩
  refine ⟨Ch.var H C M.var (hd _ (.inl rfl)), C.rd M.row fun z e => hd z (.inr (.inr (.inl e))), C.ownR M.own fun z e => hd z (.inr (.inl e)), M.nb, stp _ M.aL, M.len, fun i e d he hx => ?_⟩
  obtain ⟨q1, q2, q3, q4⟩ := M.ev i e d he hx
  exact ⟨q1, C.rd q2 fun z hz => hd z (.inr (.inr (.inr ⟨e, List.mem_of_getElem? he, hz⟩))), stp _ q3, q4⟩
theorem FK.any (M : FK h b r fv fl es) (H : Wf h) (C : Ch G h h') (hd : ∀ z, TS b r fv es z → ¬ G z) : FK h' b r fv fl es := by
  have hr := hd r (.inr (.inl rfl))
  exact ⟨Ch.var H C M.var (hd _ (.inl rfl)), C.ownR M.own fun z e => hd z (.inr (.inr (.inl e))), M.nb, (C.obj M.lt hr).trans M.obj, (C.at M.lt hr).trans M.nget, Nat.lt_of_lt_of_le M.lt (Ch.le C)⟩
theorem DV.any (V : DV h b r fv es D) (M : FK h b r fv fl es) (C : Ch G h h') (hd : ∀ z, TS b r fv es z → ¬ G z) : DV h' b r fv es D := by
  refine ⟨V.1, fun i e d he hx => ?_⟩
  obtain ⟨q1, q2, q3, q4⟩ := V.2 i e d he hx
  exact ⟨q1, C.rd q2 fun z hz => hd z (.inr (.inr (.inr ⟨e, List.mem_of_getElem? he, hz⟩))), fun z e => ⟨Nat.lt_of_lt_of_le (q3 z e).1 (Ch.le C), old_apart C M.jlt (q3 z e).1 (q3 z e).2⟩, q4⟩
theorem SF.any (S : SF h0 h b r fv fl es D) (C : Ch G h h') (hd : ∀ z, TS b r fv es z → ¬ G z) (hg : ∀ z, G z → h0.size ≤ z) : SF h0 h' b r fv fl es D := by
  refine ⟨S.m.any S.wf C hd, S.d.any S.m C hd, S.b0, S.r0, fun z k hz hk => ?_, S.k.step C hg⟩
  rw [C.at (S.m.jlt z hz) (hd z (.inr (.inr (.inl hz))))] at hk
  exact S.f0 z k hz hk
/-- Both, and that they lie apart of each other. -/
structure PS (h0 h : Heap) (b r : Nat) (fv : Value) (fl : List Int) (es : List (ByteArray × Value)) (D : List (ByteArray × List Int)) (xb : Nat) (Lv Nv : Value) (E : List (ByteArray × Value)) (X : List (ByteArray × List Int)) (fl2 : List Int) : Prop where
  s : SF h0 h b r fv fl es D
  x : RK h xb Lv Nv E X fl2
  x0 : h0.size ≤ xb
  n0 : ∀ z k, blkOf Nv = some z → h.get z = some k → h0.size ≤ k.fam
  a1 : ∀ z, TS b r fv es z → ¬ FDi h xb xb Nv z
  a2 : ∀ z, TX xb Lv Nv E z → ¬ FDi h b r fv z
theorem PS.any (P : PS h0 h b r fv fl es D xb Lv Nv E X fl2) (C : Ch G h h') (hd : ∀ z, TS b r fv es z → ¬ G z) (hx : ∀ z, TX xb Lv Nv E z → ¬ G z) (hg : ∀ z, G z → h0.size ≤ z) : PS h0 h' b r fv fl es D xb Lv Nv E X fl2 := by
  refine ⟨P.s.any C hd hg, P.x.any P.s.wf C hx, P.x0, fun z k hz hk => ?_, fun z hz => ?_, fun z hz => ?_⟩
  · rw [C.at (P.x.jlt z hz) (hx z (.inr (.inl hz)))] at hk
    exact P.n0 z k hz hk
  · exact old_apart C P.x.jlt (hz.lt P.s.m P.s.d P.s.wf) (P.a1 z hz)
  · exact old_apart C P.s.m.jlt (hz.lt P.x P.s.wf) (P.a2 z hz)
theorem PS.keeps (P : PS h0 h b r fv fl es D xb Lv Nv E X fl2) (K : Keeps h h') : PS h0 h' b r fv fl es D xb Lv Nv E X fl2 := P.any K (fun _ _ e => e) (fun _ _ e => e) fun _ e => e.elim
theorem PS.left (P : PS h0 h b r fv fl es D xb Lv Nv E X fl2) (M : FK h' b r fv' fl' es') (V : DV h' b r fv' es' D') (C : Ch (FDi h b r fv) h h') (hn : ∀ z, blkOf fv' = some z → h.size ≤ z ∨ blkOf fv = some z) (he : ∀ e, e ∈ es' → e ∈ es ∨ ∀ z, blkOf e.2 = some z → h.size ≤ z) :
    PS h0 h' b r fv' fl' es' D' xb Lv Nv E X fl2 := by
  have H := P.s.wf
  have hxb := P.x.var.lt H
  have new : ∀ z, h.size ≤ z → ¬ FDi h' xb xb Nv z := fun z hz => new_apart P.s.m.var (.inr P.s.m.nget) H C (P.a1 b (.inl rfl)) (fun y e => P.a1 y (.inr (.inr (.inl e)))) P.x.jlt hxb hxb hz
  have old : ∀ z, TS b r fv es z → ¬ FDi h' xb xb Nv z := fun z hz => old_apart C P.x.jlt (hz.lt P.s.m P.s.d H) (P.a1 z hz)
  refine ⟨P.s.step M V C hn, P.x.any H C P.a2, P.x0, fun z k hz hk => ?_, fun z hz => ?_, fun z hz F => ?_⟩
  · rw [C.at (P.x.jlt z hz) (P.a2 z (.inr (.inl hz)))] at hk
    exact P.n0 z k hz hk
  · rcases hz with rfl | rfl | e | ⟨e, hm, hb⟩
    · exact old _ (.inl rfl)
    · exact old _ (.inr (.inl rfl))
    · rcases hn z e with g | g
      · exact new z g
      · exact old z (.inr (.inr (.inl g)))
    · rcases he e hm with g | g
      · exact old z (.inr (.inr (.inr ⟨e, g, hb⟩)))
      · exact new z (g z hb)
  · exact P.a2 z hz (FDi.oldG P.s.m.var (.inr P.s.m.nget) P.s.m.jlt H C hn (hz.lt P.x H) F)
theorem PS.right (P : PS h0 h b r fv fl es D xb Lv Nv E X fl2) (M : RK h' xb Lv' Nv' E' X' fl2') (C : Ch (FDi h xb xb Nv) h h') (hn : ∀ z, blkOf Nv' = some z → h.size ≤ z ∨ blkOf Nv = some z) (hl : ∀ z, blkOf Lv' = some z → h.size ≤ z ∨ blkOf Lv = some z) (he : ∀ e, e ∈ E' → e ∈ E ∨ ∀ z, blkOf e.2 = some z → h.size ≤ z) :
    PS h0 h' b r fv fl es D xb Lv' Nv' E' X' fl2' := by
  have H := P.s.wf
  have hb := P.s.m.var.lt H
  have hr := P.s.m.lt
  have new : ∀ z, h.size ≤ z → ¬ FDi h' b r fv z := fun z hz => new_apart P.x.var (.inl rfl) H C (P.a2 xb (.inl rfl)) (fun y e => P.a2 y (.inr (.inl e))) P.s.m.jlt hb hr hz
  have old : ∀ z, TX xb Lv Nv E z → ¬ FDi h' b r fv z := fun z hz => old_apart C P.s.m.jlt (hz.lt P.x H) (P.a2 z hz)
  have hg : ∀ z, FDi h xb xb Nv z → h0.size ≤ z := fun z F => by
    rcases F with rfl | rfl | ⟨y, hy, k1, k2, g1, g2, e⟩
    · exact P.x0
    · exact P.x0
    · have := P.n0 y k2 hy g2
      have := H.2 z k1 g1
      omega
  refine ⟨P.s.any C P.a1 hg, M, P.x0, fun z k hz hk => ?_, fun z hz F => ?_, fun z hz => ?_⟩
  · rcases hn z hz with hge | hw
    · rcases C.2.2.2.1 z k hge hk with h1 | ⟨y, k0, hd, q, e⟩
      · have := Ch.le P.s.k; omega
      · rw [e]
        have atx : y = xb → h0.size ≤ k0.fam := fun e => by
          subst e
          obtain ⟨kb, v1, _, _, _, v5, _⟩ := P.x.var
          rw [v1] at q; cases q
          rw [v5]; exact P.x0
        rcases hd with e | e | ⟨w, hw, a1, a2, p1, p2, p3⟩
        · exact atx e
        · exact atx e
        · rw [p1] at q; cases q
          rw [p3]; exact P.n0 w a2 hw p2
    · obtain ⟨k3, q3, e3⟩ := C.2.2.2.2.1 z k (P.x.jlt z hw) hk
      rw [e3]; exact P.n0 z k3 hw q3
  · exact P.a1 z hz (FDi.oldG P.x.var (.inl rfl) P.x.jlt H C hn (hz.lt P.s.m P.s.d H) F)
  · rcases hz with rfl | e | e | ⟨e, hm, hb⟩
    · exact old _ (.inl rfl)
    · rcases hn z e with g | g
      · exact new z g
      · exact old z (.inr (.inl g))
    · rcases hl z e with g | g
      · exact new z g
      · exact old z (.inr (.inr (.inl g)))
    · rcases he e hm with g | g
      · exact old z (.inr (.inr (.inr ⟨e, g, hb⟩)))
      · exact new z (g z hb)
end
end Go.Proofs.YtiebaefhlacekaaGreatDoor.Am
end
section
/- Files and the document's files, told plainly: they hold the same. -/
set_option linter.unusedSimpArgs false
set_option linter.unusedVariables false
set_option maxHeartbeats 4000000
set_option maxRecDepth 20000
namespace Go.Proofs.YtiebaefhlacekaaGreatDoor.Am
open Go Go.RowKit Go.Proofs.Tryz
theorem bL_eq : ∀ (x y : List UInt8), Op.bytesLess x y = decide (x < y)
  | [], [] => by simp [Op.bytesLess]
  | _ :: _, [] => by simp [Op.bytesLess]
  | [], _ :: _ => by simp [Op.bytesLess]
  | a :: x, b :: y => by
    rw [Op.bytesLess, bL_eq x y]
    simp only [List.cons_lt_cons_iff]
    by_cases h1 : a < b <;> by_cases h2 : a = b <;> by_cases h3 : x < y <;> simp [h1, h2, h3]
def kB (a : ByteArray) : List UInt8 := a.data.toList
theorem kB_inj {a b : ByteArray} (h : kB a = kB b) : a = b := ba_ext (by rw [Lib.toList_data, Lib.toList_data]; exact h)
theorem ltB_iff {a b : ByteArray} : ltB a b = true ↔ kB a < kB b := by
  unfold ltB
  rw [bL_eq, Lib.toList_data, Lib.toList_data]
  exact decide_eq_true_iff
theorem ltB_no {a b : ByteArray} : ltB a b = false ↔ kB b ≤ kB a := by
  rw [← List.not_lt, ← ltB_iff]; simp
def Srt {α : Type} (X : List (ByteArray × α)) : Prop := X.Pairwise fun a c => kB a.1 < kB c.1
section
variable {α : Type} {s : ByteArray} {v : α} {D X : List (ByteArray × List Int)}
theorem kB_irr {a : ByteArray} : ¬ kB a < kB a := List.lt_irrefl _
/-- Past the place: what is set is in. -/
theorem setGo_put {x : ByteArray × α} : ∀ {E : List (ByteArray × α)}, setGo s x E true = E.filter fun e => !decide (e.1 = s)
  | [] => rfl
  | e :: E => by
    unfold setGo
    rw [Bool.true_or, setGo_put (E := E)]
    by_cases h : e.1 = s <;> simp [h]
/-- Set in a row that is in order: what is in. -/
theorem setGo_in {x : ByteArray × α} {p : ByteArray × α} : ∀ {E : List (ByteArray × α)}, p ∈ setGo s x E false ↔ p = x ∨ (p ∈ E ∧ p.1 ≠ s)
  | [] => by simp [setGo]
  | e :: E => by
    unfold setGo
    cases hl : ltB e.1 s with
    | true =>
      have ih := setGo_in (x := x) (p := p) (E := E)
      rw [show (false || !true) = false from rfl]
      simp only [List.mem_append, ih, List.mem_cons]
      by_cases he : e.1 = s
      · simp only [he]
        constructor
        · rintro ((h | h) | h)
          · simp at h
          · simp at h
          · rcases h with h | ⟨h1, h2⟩
            · exact .inl h
            · exact .inr ⟨.inr h1, h2⟩
        · rintro (h | ⟨h1 | h1, h2⟩)
          · exact .inr (.inl h)
          · subst h1; exact absurd he h2
          · exact .inr (.inr ⟨h1, h2⟩)
      · simp only [he]
        constructor
        · rintro ((h | h) | h)
          · simp at h
          · simp at h; exact .inr ⟨.inl h, by rw [h]; exact he⟩
          · rcases h with h | ⟨h1, h2⟩
            · exact .inl h
            · exact .inr ⟨.inr h1, h2⟩
        · rintro (h | ⟨h1 | h1, h2⟩)
          · exact .inr (.inl h)
          · exact .inl (.inr (by simp [h1]))
          · exact .inr (.inr ⟨h1, h2⟩)
    | false =>
      rw [show (false || !false) = true from rfl, setGo_put]
      simp only [List.mem_append, List.mem_cons, List.mem_filter]
      by_cases he : e.1 = s
      · simp only [he]
        constructor
        · rintro ((h | h) | ⟨h1, h2⟩)
          · simp at h; exact .inl h
          · simp at h
          · exact .inr ⟨.inr h1, by simpa using h2⟩
        · rintro (h | ⟨h1 | h1, h2⟩)
          · exact .inl (.inl (by simp [h]))
          · subst h1; exact absurd he h2
          · exact .inr ⟨h1, by simpa using h2⟩
      · simp only [he]
        constructor
        · rintro ((h | h) | ⟨h1, h2⟩)
          · simp at h; exact .inl h
          · simp at h; exact .inr ⟨.inl h, by rw [h]; exact he⟩
          · exact .inr ⟨.inr h1, by simpa using h2⟩
        · rintro (h | ⟨h1 | h1, h2⟩)
          · exact .inl (.inl (by simp [h]))
          · exact .inl (.inr (by simp [h1]))
          · exact .inr ⟨h1, by simpa using h2⟩
theorem setG_in {p : ByteArray × α} {E : List (ByteArray × α)} : p ∈ setG s v E ↔ p = (s, v) ∨ (p ∈ E ∧ p.1 ≠ s) := setGo_in
theorem setGo_srt : ∀ {E : List (ByteArray × α)}, Srt E → Srt (setGo s (s, v) E false)
  | [], _ => by simp [setGo, Srt]
  | e :: E, h => by
    obtain ⟨h1, h2⟩ := List.pairwise_cons.1 h
    unfold setGo
    cases hl : ltB e.1 s with
    | true =>
      have hlt := ltB_iff.1 hl
      have ih := setGo_srt h2
      have hne : e.1 ≠ s := fun q => by rw [q] at hlt; exact kB_irr hlt
      rw [show (false || !true) = false from rfl, if_neg (by simp), if_neg hne, List.nil_append]
      refine List.pairwise_cons.2 ⟨fun c hc => ?_, ih⟩
      rcases setGo_in.1 hc with rfl | ⟨hc, _⟩
      · exact hlt
      · exact h1 c hc
    | false =>
      have hge := ltB_no.1 hl
      rw [show (false || !false) = true from rfl, setGo_put, if_pos ⟨rfl, rfl⟩, List.append_assoc, List.singleton_append]
      refine List.pairwise_cons.2 ⟨fun c hc => ?_, ?_⟩
      · show kB s < kB c.1
        rcases List.mem_append.1 hc with hc | hc
        · by_cases he : e.1 = s
          · rw [if_pos he] at hc; cases hc
          · rw [if_neg he] at hc
            simp only [List.mem_singleton] at hc
            subst hc
            rcases List.le_iff_lt_or_eq.1 hge with g | g
            · exact g
            · exact absurd (kB_inj g).symm he
        · have := h1 c (List.mem_filter.1 hc).1
          exact List.lt_of_le_of_lt hge this
      · refine List.pairwise_append.2 ⟨?_, List.Pairwise.filter _ h2, fun a ha c hc => ?_⟩
        · by_cases he : e.1 = s
          · rw [if_pos he]; exact .nil
          · rw [if_neg he]; simp
        · by_cases he : e.1 = s
          · rw [if_pos he] at ha; cases ha
          · rw [if_neg he] at ha
            simp only [List.mem_singleton] at ha
            subst ha
            exact h1 c (List.mem_filter.1 hc).1
theorem setG_srt {E : List (ByteArray × α)} (h : Srt E) : Srt (setG s v E) := setGo_srt h
/-- The keys of an unordered row are all different. -/
def Kn (D : List (ByteArray × List Int)) : Prop := D.Pairwise fun a c => a.1 ≠ c.1
theorem Srt.kn {X : List (ByteArray × List Int)} (h : Srt X) : Kn X := h.imp fun {a c} g e => by rw [e] at g; exact kB_irr g
theorem Kn.nodup (h : Kn D) : D.Nodup := h.imp fun {a c} g e => g (by rw [e])
theorem Kn.keys (h : Kn D) : (D.map (·.1)).Nodup := List.pairwise_map.2 h
theorem findD_no {D : List (ByteArray × List Int)} : findD s D = none ↔ ∀ p, p ∈ D → p.1 ≠ s := by
  induction D with
  | nil => simp [findD]
  | cons e D ih =>
    unfold findD
    by_cases he : e.1 = s
    · rw [if_pos he]; simp [he]
    · rw [if_neg he, Option.map_eq_none_iff, ih]; simp [he]
theorem findD_yes : ∀ {D : List (ByteArray × List Int)} {i : Nat}, findD s D = some i → ∃ l, D[i]? = some (s, l)
  | [], i, h => by simp [findD] at h
  | e :: D, i, h => by
    unfold findD at h
    by_cases he : e.1 = s
    · rw [if_pos he] at h; cases h
      exact ⟨e.2, by rw [← he]; rfl⟩
    · rw [if_neg he] at h
      obtain ⟨j, hj, rfl⟩ := Option.map_eq_some_iff.1 h
      obtain ⟨l, hl⟩ := findD_yes hj
      exact ⟨l, by simpa using hl⟩
theorem Kn.at (h : Kn D) {i j : Nat} {a c : ByteArray × List Int} (hi : D[i]? = some a) (hj : D[j]? = some c) (e : a.1 = c.1) : i = j := by
  obtain ⟨h1, rfl⟩ := List.getElem?_eq_some_iff.1 hi
  obtain ⟨h2, rfl⟩ := List.getElem?_eq_some_iff.1 hj
  have := List.pairwise_iff_getElem.1 h
  rcases Nat.lt_trichotomy i j with g | g | g
  · exact absurd e (this i j h1 h2 g)
  · exact g
  · exact absurd e.symm (this j i h2 h1 g)
theorem getD_iff (h : Kn D) {l : List Int} : getD' D s = some l ↔ (s, l) ∈ D := by
  unfold getD'
  cases hf : findD s D with
  | none =>
    have := findD_no.1 hf
    simp only [Option.bind_none]
    constructor
    · intro g; cases g
    · intro g; exact absurd rfl (this _ g)
  | some i =>
    obtain ⟨l', hl⟩ := findD_yes hf
    simp only [Option.bind_some, hl, Option.map_some]
    constructor
    · intro g; cases g; exact List.mem_of_getElem? hl
    · intro g
      obtain ⟨j, hj⟩ := List.getElem?_of_mem g
      have := h.at hl hj rfl
      subst this
      rw [hl] at hj; cases hj; rfl
theorem putD_in (h : Kn D) {l : List Int} {p : ByteArray × List Int} : p ∈ putD D s l ↔ p = (s, l) ∨ (p ∈ D ∧ p.1 ≠ s) := by
  unfold putD
  cases hf : findD s D with
  | none =>
    have := findD_no.1 hf
    simp only [List.mem_append, List.mem_singleton]
    constructor
    · rintro (g | g)
      · exact .inr ⟨g, this p g⟩
      · exact .inl g
    · rintro (g | ⟨g, _⟩)
      · exact .inr g
      · exact .inl g
  | some i =>
    obtain ⟨l', hl⟩ := findD_yes hf
    obtain ⟨hi, hl0⟩ := List.getElem?_eq_some_iff.1 hl
    constructor
    · intro g
      obtain ⟨j, hj⟩ := List.getElem?_of_mem g
      rw [List.getElem?_set] at hj
      split at hj
      · first
          | (cases hj; exact .inl rfl)
          | (rw [if_pos hi] at hj; cases hj; exact .inl rfl)
      · rename_i hne
        exact .inr ⟨List.mem_of_getElem? hj, fun e => hne (h.at hl hj e.symm)⟩
    · rintro (g | ⟨g, hs⟩)
      · subst g
        exact List.mem_of_getElem? (i := i) (by rw [List.getElem?_set]; simp [hi])
      · obtain ⟨j, hj⟩ := List.getElem?_of_mem g
        refine List.mem_of_getElem? (i := j) ?_
        rw [List.getElem?_set, if_neg]
        · exact hj
        · rintro rfl
          rw [hl] at hj; cases hj
          exact hs rfl
theorem putD_kn (h : Kn D) {l : List Int} : Kn (putD D s l) := by
  unfold putD
  cases hf : findD s D with
  | none =>
    have := findD_no.1 hf
    refine List.pairwise_append.2 ⟨h, by simp, fun a ha c hc => ?_⟩
    simp only [List.mem_singleton] at hc
    subst hc
    exact this a ha
  | some i =>
    obtain ⟨l', hl⟩ := findD_yes hf
    obtain ⟨hi, hl0⟩ := List.getElem?_eq_some_iff.1 hl
    have hk : (D.set i (s, l)).map (·.1) = D.map (·.1) := by
      rw [List.map_set]
      have : (D.map (·.1))[i]? = some s := by simp [hl]
      obtain ⟨h1, h2⟩ := List.getElem?_eq_some_iff.1 this
      conv => lhs; rw [← h2]
      exact List.set_getElem_self h1
    have := h.keys
    rw [← hk] at this
    exact List.pairwise_map.1 this
theorem putD_len {l : List Int} : (putD D s l).length ≤ if findD s D = none then D.length + 1 else D.length := by
  unfold putD
  cases hf : findD s D with
  | none => simp
  | some i => simp
end
/-- The same files: in whatever order, and in the names' order. -/
structure AG (D X : List (ByteArray × List Int)) : Prop where
  mem : ∀ p, p ∈ D ↔ p ∈ X
  kn : Kn D
  srt : Srt X
  nm : ∀ p, p ∈ D → nameB p.1 = true
  le : D.length ≤ 32
section
variable {s : ByteArray} {D X : List (ByteArray × List Int)}
theorem AG.nil : AG [] [] := ⟨fun p => Iff.rfl, .nil, .nil, fun p h => (by cases h), by simp⟩
theorem AG.perm (A : AG D X) : D.Perm X := (List.perm_ext_iff_of_nodup A.kn.nodup A.srt.kn.nodup).2 A.mem
theorem AG.len (A : AG D X) : D.length = X.length := A.perm.length_eq
theorem AG.get (A : AG D X) : getD' D s = getD' X s := by
  refine Option.ext fun l => ?_
  rw [getD_iff A.kn, getD_iff A.srt.kn, A.mem]
theorem AG.find (A : AG D X) : findD s D = none ↔ findD s X = none := by
  rw [findD_no, findD_no]
  exact ⟨fun h p hp => h p ((A.mem p).2 hp), fun h p hp => h p ((A.mem p).1 hp)⟩
theorem AG.room (A : AG D X) {n : Int} : roomZ D s n = roomZ X s n := by
  unfold roomZ
  have h1 : (findD s D = none ∧ 32 ≤ D.length) ↔ (findD s X = none ∧ 32 ≤ X.length) := by rw [A.find, A.len]
  simp only [h1]
theorem AG.bytE (A : AG D X) : bytE D s = bytE X s := by unfold Am.bytE; rw [A.get]
theorem AG.bytL (A : AG D X) : bytL D s = bytL X s := by unfold Am.bytL; rw [A.get]
theorem AG.stoE (A : AG D X) {fl : List Int} {n : Nat} : stoE D fl s n = stoE X fl s n := by unfold Am.stoE; rw [A.room]
theorem AG.stoN (A : AG D X) {fl : List Int} {n : Nat} : stoN D fl s n = stoN X fl s n := by unfold Am.stoN; rw [A.room]
theorem AG.stoF (A : AG D X) {fl : List Int} {n : Nat} : stoF D fl s n = stoF X fl s n := by unfold Am.stoF; rw [A.room]
theorem room_name {n : Int} (h : roomZ D s n = 0) : nameB s = true ∧ (findD s D = none → D.length < 32) := by
  unfold roomZ at h
  split at h
  · cases h
  · rename_i h1
    split at h
    · cases h
    · split at h
      · cases h
      · rename_i h2
        refine ⟨by simpa using h1, fun g => ?_⟩
        apply Classical.byContradiction
        intro hn
        exact h2 ⟨g, by omega⟩
theorem AG.put (A : AG D X) {n : Int} {l : List Int} (hr : roomZ D s n = 0) : AG (putD D s l) (setG s l X) := by
  obtain ⟨h1, h2⟩ := room_name hr
  refine ⟨fun p => ?_, putD_kn A.kn, setG_srt A.srt, fun p hp => ?_, ?_⟩
  · rw [putD_in A.kn, setG_in, A.mem]
  · rcases (putD_in A.kn).1 hp with rfl | ⟨hp, _⟩
    · exact h1
    · exact A.nm p hp
  · have := putD_len (s := s) (D := D) (l := l)
    have := A.le
    split at *
    · rename_i g; have := h2 g; omega
    · omega
theorem sto_room {fl : List Int} {n : Nat} (h : stoE D fl s n = 0) : roomZ D s n = 0 := by
  unfold stoE at h
  split at h
  · rename_i g; exact absurd h g
  · rename_i g; exact Classical.byContradiction g
theorem AG.sto (A : AG D X) {fl : List Int} {b : List Int} : AG (stoD D fl s b) (refD X fl s b) := by
  unfold stoD refD
  rw [A.stoE]
  split
  · rename_i h
    rw [← A.stoE] at h
    exact A.put (sto_room h)
  · exact A
theorem AG.putZ (A : AG D X) {b : List Int} : AG (putZ D s b) (refP X s b) := by
  unfold Am.putZ refP
  rw [A.room]
  split
  · rename_i h
    rw [← A.room] at h
    exact A.put h
  · exact A
/-- The names in order. -/
theorem AG.names (A : AG D X) {ts : List (List UInt8)} (hp : ts.Perm (D.map fun d => kB d.1)) : ts.mergeSort (fun x y => decide (x ≤ y)) = X.map fun d => kB d.1 := by
  refine List.Perm.eq_of_pairwise (le := fun x y => x ≤ y) (fun a b _ _ h1 h2 => List.le_antisymm h1 h2) ?_ ?_ ?_
  · have := List.pairwise_mergeSort (le := fun x y : List UInt8 => decide (x ≤ y)) (fun a b c h1 h2 => by
      simp only [decide_eq_true_eq] at h1 h2 ⊢
      exact List.le_trans h1 h2) (fun a b => by
      simp only [Bool.or_eq_true, decide_eq_true_eq]
      exact List.le_total a b) ts
    exact this.imp fun {a b} h => of_decide_eq_true h
  · refine List.pairwise_map.2 (A.srt.imp fun {a b} h => ?_)
    exact List.le_of_lt h
  · exact (List.mergeSort_perm ts _).trans (hp.trans (A.perm.map _))
end
end Go.Proofs.YtiebaefhlacekaaGreatDoor.Am
end
section
/- Files and the document's files: a row of one's own beside both; the document's outcomes. -/
set_option linter.unusedSimpArgs false
set_option linter.unusedVariables false
set_option maxHeartbeats 8000000
set_option maxRecDepth 20000
namespace Go.Proofs.YtiebaefhlacekaaGreatDoor.Am
open Go Go.RowKit Go.Proofs.Tryz
section
variable {h0 h h' : Heap} {b r : Nat} {fv fv' : Value} {fl fl' : List Int} {es es' : List (ByteArray × Value)} {D D' : List (ByteArray × List Int)} {xb : Nat} {Lv Nv Lv' Nv' : Value} {E E' : List (ByteArray × Value)} {X X' : List (ByteArray × List Int)} {fl2 fl2' : List Int} {own : Value} {n : Nat} {ws : List Value}
/-- A row that lies apart of both. -/
def OA (h0 h : Heap) (b r : Nat) (fv : Value) (es : List (ByteArray × Value)) (xb : Nat) (Lv Nv : Value) (E : List (ByteArray × Value)) (own : Value) : Prop :=
  (∀ z, TS b r fv es z → ¬ FamV h own z) ∧ (∀ z, TX xb Lv Nv E z → ¬ FamV h own z) ∧ ∀ z, FamV h own z → h0.size ≤ z
theorem fam_ge (K : Keeps h h') (hf : ∀ z, blkOf own = some z → h.size ≤ z) {z : Nat} (F : FamV h' own z) : h.size ≤ z := by
  obtain ⟨y, hy, k1, k2, g1, g2, e⟩ := F
  have := (Ch.wf K).2 z k1 g1
  rcases K.2.2.2.1 y k2 (hf y hy) g2 with h3 | ⟨_, _, e3, _⟩
  · omega
  · exact e3.elim
theorem OA.fresh (P : PS h0 h b r fv fl es D xb Lv Nv E X fl2) (K : Keeps h h') (hf : ∀ z, blkOf own = some z → h.size ≤ z) : OA h0 h' b r fv es xb Lv Nv E own :=
  ⟨fun z hz F => by have := hz.lt P.s.m P.s.d P.s.wf; have := fam_ge K hf F; omega, fun z hz F => by have := hz.lt P.x P.s.wf; have := fam_ge K hf F; omega, fun z F => by have := fam_ge K hf F; have := Ch.le P.s.k; omega⟩
/-- Still so behind a deed of the files'. -/
theorem OA.left (A : OA h0 h b r fv es xb Lv Nv E own) (P : PS h0 h b r fv fl es D xb Lv Nv E X fl2) (C : Ch (FDi h b r fv) h h') (hlt : ∀ z, blkOf own = some z → z < h.size) (he : ∀ e, e ∈ es' → e ∈ es ∨ ∀ z, blkOf e.2 = some z → h.size ≤ z) : OA h0 h' b r fv es' xb Lv Nv E own := by
  have H := P.s.wf
  have new : ∀ z, h.size ≤ z → ¬ FamV h' own z := by
    rintro z hz ⟨y, hy, k1, k2, g1, g2, e⟩
    have hyl := hlt y hy
    obtain ⟨k3, q3, e3⟩ := C.2.2.2.2.1 y k2 hyl g2
    have hk3 := H.2 y k3 q3
    rcases C.2.2.2.1 z k1 hz g1 with h1 | ⟨w, k0, hd, q, e4⟩
    · omega
    · have bad : ∀ u ku, h.get u = some ku → ku.fam = k0.fam → TS b r fv es u → False := fun u ku qu eu T => A.1 u T ⟨y, hy, ku, k3, qu, q3, by omega⟩
      rcases hd with e5 | e5 | ⟨u, hu, a1, a2, p1, p2, p3⟩
      · subst e5; exact bad _ _ q rfl (.inl rfl)
      · subst e5; rw [P.s.m.nget] at q; cases q
      · rw [p1] at q; cases q
        exact bad u a2 p2 p3.symm (.inr (.inr (.inl hu)))
  have old : ∀ z, z < h.size → FamV h' own z → FamV h own z := fun z hz F => (FamV.back C hlt F).elim (fun g => by omega) id
  refine ⟨fun z hz F => ?_, fun z hz F => A.2.1 z hz (old z (hz.lt P.x H) F), fun z F => ?_⟩
  · have oldT : TS b r fv es z → False := fun T => A.1 z T (old z (T.lt P.s.m P.s.d H) F)
    rcases hz with g | g | g | ⟨e, hm, hb⟩
    · exact oldT (.inl g)
    · exact oldT (.inr (.inl g))
    · exact oldT (.inr (.inr (.inl g)))
    · rcases he e hm with g | g
      · exact oldT (.inr (.inr (.inr ⟨e, g, hb⟩)))
      · exact new z (g z hb) F
  · rcases FamV.back C hlt F with g | g
    · have := Ch.le P.s.k; omega
    · exact A.2.2 z g
/-- A store into it. -/
theorem PS.store (P : PS h0 h b r fv fl es D xb Lv Nv E X fl2) (O : OwnR prog h 1 own n ws) (A : OA h0 h b r fv es xb Lv Nv E own) {i : Nat} (hi : i < n) {w : Int} :
    ∃ h' ws', storeV prog h 5 (.pointer (some (eltA own 1 i))) (.int .u8 w) = some (undef, h') ∧ PS h0 h' b r fv fl es D xb Lv Nv E X fl2 ∧ OwnR prog h' 1 own n ws' ∧ OA h0 h' b r fv es xb Lv Nv E own ∧ ∀ z cs, Var h z cs → ¬ FamV h own z → Var h' z cs ∧ ¬ FamV h' own z := by
  obtain ⟨h', e1, O', C, z, _, _⟩ := O.storeA P.s.wf (t := 5) (w := .int .u8 w) asz5 rfl (by simp [Value.cells, one]) hi
  have hlt : ∀ z, blkOf own = some z → z < h.size := fun z e => (O.1.blk_lt e).1
  refine ⟨h', _, e1, P.any C A.1 A.2.1 A.2.2, O', ⟨fun z hz F => ?_, fun z hz F => ?_, fun z F => ?_⟩, fun z cs V nf => ⟨Ch.var P.s.wf C V nf, fun F => ?_⟩⟩
  · rcases FamV.back C hlt F with g | g
    · have := hz.lt P.s.m P.s.d P.s.wf; omega
    · exact A.1 z hz g
  · rcases FamV.back C hlt F with g | g
    · have := hz.lt P.x P.s.wf; omega
    · exact A.2.1 z hz g
  · rcases FamV.back C hlt F with g | g
    · have := Ch.le P.s.k; omega
    · exact A.2.2 z g
  · rcases FamV.back C hlt F with g | g
    · have := V.lt P.s.wf; omega
    · exact nf g
/-- An outcome more. -/
theorem RK.fail (M : RK h xb Lv Nv E X fl) (H : Wf h) (hl : fl.length ≤ 1000000) {n : Int} : ∃ h5 h6, aappend prog (h.new 3 [.int .i64 n]) 27 27 Nv (.slice (some ⟨h.size, 0, none⟩) 1 2) = some (.slice (some ⟨h.size + 1, 0, none⟩) (fl.length + 1) 0, h5) ∧
    storeV prog h5 27 (.pointer (some ⟨xb, 1, none⟩)) (.slice (some ⟨h.size + 1, 0, none⟩) (fl.length + 1) 0) = some (undef, h6) ∧ ROut h xb Lv Nv E h6 X (fl ++ [n]) := by
  obtain ⟨h5, e5, O5, z5, C5, _, _⟩ := M.own.append1 H (t := 27) underlying27 elem3 fits3 (by decide) (xs := [.int .i64 n]) rfl (by omega)
  have hbl := M.var.lt H
  have V5 := Ch.var H C5 M.var (M.var.notFam M.nb)
  obtain ⟨h6, e6, V6, C6, z6⟩ := V5.store1 (P := prog) (t := 27) (v := .slice (some ⟨h.size + 1, 0, none⟩) (fl.length + 1) 0) (i := 1) (Ch.wf C5) asz27 (by simp) rfl
  simp only [List.set_cons_succ, List.set_cons_zero] at V6
  have O6 := Ch.ownR C6 O5 fun z e e' => by have := blk_at e; omega
  have CC : Ch (FDi h xb xb Nv) h h6 := (C5.mono (D' := FDi h xb xb Nv) fun x F => .inr (.inr F)).then C6 fun x e => .inr (.inl e)
  have hn : ∀ z, blkOf (Value.slice (some ⟨h.size + 1, 0, none⟩) (fl.length + 1) 0) = some z → h.size ≤ z ∨ blkOf Nv = some z := fun z e => by cases e; exact .inl (Nat.le_succ _)
  have stp : ∀ v, AP h xb xb Nv v → AP h6 xb xb (.slice (some ⟨h.size + 1, 0, none⟩) (fl.length + 1) 0) v := fun v A => A.stepG M.var (.inl rfl) M.jlt H CC hn
  refine ⟨h5, h6, e5, e6, Lv, _, E, ⟨V6, CC.rd M.row fun z e => (M.aL z e).2, ?_, fun e => by have := blk_at e; omega, stp _ M.aL, M.len, fun i e d he hd => ?_⟩, CC, hn, fun z e => .inr e, fun e he => .inl he⟩
  · rw [show (fl ++ [n]).length = fl.length + 1 by simp, List.map_append]; exact O6
  · obtain ⟨q1, q2, q3, q4⟩ := M.ev i e d he hd
    exact ⟨q1, CC.rd q2 fun z e => (q3 z e).2, stp _ q3, q4⟩
end
end Go.Proofs.YtiebaefhlacekaaGreatDoor.Am
end
section
/- Files: one deed, at both, by a walk. -/
set_option linter.unusedSimpArgs false
set_option linter.unusedVariables false
set_option maxHeartbeats 16000000
set_option maxRecDepth 20000
namespace Go.Proofs.YtiebaefhlacekaaGreatDoor.Am
open Go Go.RowKit Go.Proofs.Tryz
/-- A deed, as it was handed in. -/
structure DQ (h0 : Heap) (s : ByteArray) (lv : Value) (L : List (List Int)) (bv : Value) (xs : List Int) : Prop where
  text : LR h0 lv L
  runes : ∀ i j, isR ((L.getD i []).getD j 0)
  small : smallB L = true
  bytes : RdI prog h0 .u8 bv xs
  isb : ∀ x, x ∈ xs → isB x
  few : xs.length ≤ 3000
  name : s.size ≤ 1000000000000
def PQ (h0 h : Heap) (b xb : Nat) (fl : List Int) (D X : List (ByteArray × List Int)) : Prop := AG D X ∧ ∃ r fv es Lv Nv E, PS h0 h b r fv fl es D xb Lv Nv E X fl
theorem boxV_d {h : Heap} {k n : Int} {s : ByteArray} {lv bv : Value} (h1 : one lv = true) (h2 : one bv = true) : boxV prog h 34 (.agg #[.int .i64 k, .int .i64 n, .string s, lv, bv]) = some (.pointer (some ⟨h.size, 0, none⟩), h.new 34 [.int .i64 k, .int .i64 n, .string s, lv, bv]) := by
  have e : (Value.agg #[.int .i64 k, .int .i64 n, .string s, lv, bv]).cells = #[.int .i64 k, .int .i64 n, .string s, lv, bv] := rfl
  simp [boxV, asz34, e, one_string, one_int, h1, h2]
theorem twin_lr {h : Heap} {y : Value} {W : List (Value × List Int)} (R : Rd prog h 1 y W.length (W.map (·.1))) (hr : ∀ p, p ∈ W → RdI prog h .i32 p.1 p.2) : LR h y (W.map (·.2)) := by
  refine ⟨W.map (·.1), by rw [List.length_map]; exact R, fun i hi => ?_⟩
  rw [List.length_map] at hi
  have hp := hr W[i] (List.getElem_mem hi)
  have e1 : (W.map (·.1)).getD i undef = W[i].1 := by simp [List.getD, hi]
  have e2 : (W.map (·.2)).getD i [] = W[i].2 := by simp [List.getD, hi]
  rw [e1, e2]
  exact ⟨hp, by simp [hi]⟩
theorem LR.one {h : Heap} {v : Value} {L : List (List Int)} (R : LR h v L) : one v = true := by
  obtain ⟨vs, hR, _⟩ := R
  exact Rd.one hR
theorem LR.none {h : Heap} : LR h (.slice none 0 0) [] := ⟨[], Rd.nil0, fun i hi => by simp at hi⟩
theorem lens_get {L : List (List Int)} {i : Nat} : (L.getD i []).length ≤ lenS L := by
  by_cases hi : i < L.length
  · have := lenS_at hi; omega
  · rw [List.getD_eq_getElem?_getD, List.getElem?_eq_none (by omega)]; simp
section
variable {h0 h : Heap} {b xb : Nat} {fl : List Int} {D X : List (ByteArray × List Int)}
theorem do_ok {k n : Int} {s : ByteArray} {lv bv : Value} {L : List (List Int)} {xs : List Int} (P : PQ h0 h b xb fl D X) (Q : DQ h0 s lv L bv xs) (hfl : fl.length ≤ 1000) :
    ACalls prog 6 #[pt b, pt xb, .agg #[.int .i64 k, .int .i64 n, .string s, lv, bv]] h (fun y h' => y = .bool true ∧ ∃ fl' D' X', PQ h0 h' b xb fl' D' X' ∧ fl'.length ≤ fl.length + 1) := by
  refine acalls_of_W' func6 rfl (by kernel_rfl) (by kernel_rfl) (by simp [ntmps6]) ?_
  intro H
  obtain ⟨A, r, fv, es, Lv, Nv, E, P0⟩ := P
  have K1 := Keeps.new H 34 [.int .i64 k, .int .i64 n, .string s, lv, bv]
  have Vd := Var.new (e := 34) H (cs := [.int .i64 k, .int .i64 n, .string s, lv, bv])
  have H1 := Ch.wf K1
  have P1 := P0.keeps K1
  have nd1 : ¬ FDi (h.new 34 [.int .i64 k, .int .i64 n, .string s, lv, bv]) b r fv h.size := fresh_apart H K1 P0.s.m.jlt (P0.s.m.var.lt H) P0.s.m.lt (Nat.le_refl _)
  have nx1 : ¬ FDi (h.new 34 [.int .i64 k, .int .i64 n, .string s, lv, bv]) xb xb Nv h.size := fresh_apart H K1 P0.x.jlt (P0.x.var.lt H) (P0.x.var.lt H) (Nat.le_refl _)
  have hEl : E.length ≤ 1000 := by have := P0.x.len; have := A.len; have := A.le; omega
  obtain ⟨q1, q2, q3⟩ := small_bd Q.small
  have LL := fun {hh : Heap} (V : Var hh h.size [.int .i64 k, .int .i64 n, .string s, lv, bv]) =>
    And.intro (V.load1 (P := prog) (t := 3) underlying3 rfl (i := 0)) <| And.intro (V.load1 (P := prog) (t := 3) underlying3 rfl (i := 1)) <| And.intro (V.load1 (P := prog) (t := 9) underlying9 rfl (i := 2)) <| And.intro (V.load1 (P := prog) (t := 31) underlying31 rfl (i := 3)) (V.load1 (P := prog) (t := 32) underlying32 rfl (i := 4))
  obtain ⟨L0, L1, L2, L3, L4⟩ := LL Vd
  simp only [List.getElem?_cons_succ, List.getElem?_cons_zero] at L0 L1 L2 L3 L4
  by_cases k0 : k = 0
  · simp only [wk, wt, wl, ↓reduceIte, Nat.reduceEqDiff, Nat.reduceAdd, Nat.zero_add, not_false_eq_true, not_true_eq_false, aeff_box, boxV_d Q.text.one Q.bytes.one, L0, decide_eq_true k0]
    refine adraw_order [(0, false), (1, false), (2, false), (3, false), (4, false), (5, true), (6, false), (7, false), (8, false), (9, false), (10, false), (11, false)] mixed (by kernel_rfl) (by kernel_rfl) (by kernel_rfl) (by with_reducible repeat (first | exact PF_retK | refine PF_thenK ?_ | refine PF_blockK ?_)) ?_
    simp only [wk, wt, wl, ↓reduceIte, Nat.reduceEqDiff, Nat.reduceAdd, Nat.zero_add, not_false_eq_true, not_true_eq_false, dK_t, pt, L2, L3]
    refine (twin_ok (Q.text.keeps P1.s.k) (by omega) (by omega)).use ?_
    rintro wv h2 ⟨W, hW, RW, TW, K2⟩
    have P2 := P1.keeps K2
    have H2 := Ch.wf K2
    have hLR := twin_lr RW fun p hp => (TW.2.1 p hp).1.1
    rw [hW] at hLR
    have V2 := Keeps.var H1 K2 Vd
    have nd2 := old_apart K2 P1.s.m.jlt (Vd.lt H1) nd1
    simp only [wk, wt, wl, ↓reduceIte, Nat.reduceEqDiff, Nat.reduceAdd, Nat.zero_add, not_false_eq_true, not_true_eq_false, dK_t]
    refine ⟨Keeps.reads H1 K2, ?_⟩
    refine (write_ok P2.s.m P2.s.d hLR Q.runes (by omega) (by omega) (by omega)).use ?_
    rintro _ h3 ⟨rfl, fv3, es3, M3, D3, C3, n3, e3⟩
    have P3 := P2.left M3 D3 C3 n3 e3
    have V3 := Ch.var H2 C3 V2 nd2
    obtain ⟨_, _, L2', L3', _⟩ := LL V3
    simp only [List.getElem?_cons_succ, List.getElem?_cons_zero] at L2' L3'
    simp only [wk, wt, wl, ↓reduceIte, Nat.reduceEqDiff, Nat.reduceAdd, Nat.zero_add, not_false_eq_true, not_true_eq_false, dK_t, pt, L2', L3']
    refine (refWrite_ok P3.x hEl Q.name (Q.text.keeps P3.s.k) Q.runes (by omega) (by omega) (by omega)).use ?_
    rintro _ h4 ⟨rfl, Lv4, Nv4, E4, M4, C4, n4, l4, e4⟩
    have P4 := P3.right M4 C4 n4 l4 e4
    have d1 : ∀ a : Int, decide (a = a) = true := fun a => decide_eq_true rfl
    simp only [wk, wt, wl, ↓reduceIte, Nat.reduceEqDiff, Nat.reduceAdd, Nat.zero_add, not_false_eq_true, not_true_eq_false, A.stoN, A.stoE, d1]
    rw [← A.stoF] at P4
    refine ⟨_, _, _, ⟨A.sto, _, _, _, _, _, _, P4⟩, ?_⟩
    unfold stoF
    split
    · omega
    · rw [List.length_tail]; omega
  · by_cases k1 : k = 1
    · simp only [wk, wt, wl, ↓reduceIte, Nat.reduceEqDiff, Nat.reduceAdd, Nat.zero_add, not_false_eq_true, not_true_eq_false, aeff_box, boxV_d Q.text.one Q.bytes.one, L0, decide_eq_false k0, decide_eq_true k1, pt, L2]
      refine (read_ok P1.s.m P1.s.d).use ?_
      rintro y h2 ⟨K2, hy⟩
      have P2 := P1.keeps K2
      have H2 := Ch.wf K2
      have V2 := Keeps.var H1 K2 Vd
      obtain ⟨_, _, L2', _, _⟩ := LL V2
      simp only [List.getElem?_cons_succ, List.getElem?_cons_zero] at L2'
      obtain ⟨v, e, k1', k2', k3', k4', k5'⟩ := fet_key P2.s.d s
      have hxl : (bytL X s).length ≤ 262144 := by rw [← A.bytL]; exact k4'
      have d1 : ∀ a : Int, decide (a = a) = true := fun a => decide_eq_true rfl
      have fin : ∀ h', Keeps h2 h' → ∃ fl' D' X', PQ h0 h' b xb fl' D' X' ∧ fl'.length ≤ fl.length + 1 := fun h' K => ⟨fl, D, X, ⟨A, _, _, _, _, _, _, P2.keeps K⟩, Nat.le_succ _⟩
      rcases hy with ⟨g, rfl⟩ | ⟨g, W, hD, hy⟩
      · simp only [wk, wt, wl, ↓reduceIte, Nat.reduceEqDiff, Nat.reduceAdd, Nat.zero_add, not_false_eq_true, not_true_eq_false, pt, L2']
        refine (refRead_ok (W := []) P2.x hEl Q.name hxl fun g' => absurd (by rw [A.bytE]; exact g') g).use ?_
        rintro y3 h3 ⟨K3, ⟨g3, rfl⟩ | ⟨g3, _⟩⟩
        · simp only [wk, wt, wl, ↓reduceIte, Nat.reduceEqDiff, Nat.reduceAdd, Nat.zero_add, not_false_eq_true, not_true_eq_false, pt]
          refine (refSame_ok LR.none LR.none (fun i => by simp) (by simp)).use_pure ?_
          simp only [wk, wt, wl, ↓reduceIte, Nat.reduceEqDiff, Nat.reduceAdd, Nat.zero_add, not_false_eq_true, not_true_eq_false, decide_true, A.bytE, d1]
          all_goals exact fin _ K3
        · exact absurd (by rw [A.bytE]; exact g3) g
      · have hD2 : DecAll (splitZ (trimZ (bytL X s) 10) 10) W := by rw [← A.bytL]; exact hD
        have hgo := refRead_ok (W := W) P2.x hEl Q.name hxl fun _ => hD2
        have g' : bytE X s = 0 := by rw [← A.bytE]; exact g
        rcases hy with ⟨c, rfl⟩ | ⟨c, v, rfl, hLR⟩
        · simp only [wk, wt, wl, ↓reduceIte, Nat.reduceEqDiff, Nat.reduceAdd, Nat.zero_add, not_false_eq_true, not_true_eq_false, pt, L2']
          refine hgo.use ?_
          rintro y3 h3 ⟨K3, ⟨g3, _⟩ | ⟨g3, ⟨c3, rfl⟩ | ⟨c3, _⟩⟩⟩
          · exact absurd g' g3
          · simp only [wk, wt, wl, ↓reduceIte, Nat.reduceEqDiff, Nat.reduceAdd, Nat.zero_add, not_false_eq_true, not_true_eq_false, pt]
            refine (refSame_ok LR.none LR.none (fun i => by simp) (by simp)).use_pure ?_
            simp only [wk, wt, wl, ↓reduceIte, Nat.reduceEqDiff, Nat.reduceAdd, Nat.zero_add, not_false_eq_true, not_true_eq_false, decide_true, d1]
            all_goals exact fin _ K3
          · exact absurd c c3
        · simp only [wk, wt, wl, ↓reduceIte, Nat.reduceEqDiff, Nat.reduceAdd, Nat.zero_add, not_false_eq_true, not_true_eq_false, pt, L2']
          refine hgo.use ?_
          rintro y3 h3 ⟨K3, ⟨g3, _⟩ | ⟨g3, ⟨c3, _⟩ | ⟨c3, v3, rfl, hLR3⟩⟩⟩
          · exact absurd g' g3
          · exact absurd c3 c
          · have hs := sumL_lens (W := W)
            simp only [wk, wt, wl, ↓reduceIte, Nat.reduceEqDiff, Nat.reduceAdd, Nat.zero_add, not_false_eq_true, not_true_eq_false, pt]
            refine (refSame_ok (hLR.keeps K3) hLR3 (fun i => by have := lens_get (L := W) (i := i); omega) (by omega)).use_pure ?_
            simp only [wk, wt, wl, ↓reduceIte, Nat.reduceEqDiff, Nat.reduceAdd, Nat.zero_add, not_false_eq_true, not_true_eq_false, decide_true, d1]
            all_goals exact fin _ K3
    · by_cases k2 : k = 2
      · simp only [wk, wt, wl, ↓reduceIte, Nat.reduceEqDiff, Nat.reduceAdd, Nat.zero_add, not_false_eq_true, not_true_eq_false, aeff_box, boxV_d Q.text.one Q.bytes.one, L0, decide_eq_false k0, decide_eq_false k1, decide_eq_true k2, pt, L4]
        have N2 := Keeps.new H1 5 []
        have O0 : Own prog (h.new 34 [.int .i64 k, .int .i64 n, .string s, lv, bv]).size ((h.new 34 [.int .i64 k, .int .i64 n, .string s, lv, bv]).new 5 []) 1 (.slice (some ⟨(h.new 34 [.int .i64 k, .int .i64 n, .string s, lv, bv]).size, 0, none⟩) 0 1) 0 [] := Own.new H1 (Nat.le_refl _) asz5 (by simp)
        have RB := (Q.bytes.keeps P1.s.k).keeps N2
        obtain ⟨own, h2, e2, O2, R2, C2, hv⟩ := O0.appendRd (P := prog) (Ch.wf N2) (Ch.le N2) underlying32 underlying32 rfl elem5 fits5 (by decide) RB (by have := Q.few; omega)
        have K2 := N2.step C2 fun z hz => hz.2
        have H2 := Ch.wf K2
        have P2 := P1.keeps K2
        have V2 := Keeps.var H1 K2 Vd
        have nd2 := old_apart K2 P1.s.m.jlt (Vd.lt H1) nd1
        have nx2 := old_apart K2 P1.x.jlt (Vd.lt H1) nx1
        have hown : ∀ z, blkOf own = some z → (h.new 34 [.int .i64 k, .int .i64 n, .string s, lv, bv]).size ≤ z := fun z e => by
          rcases hv with rfl | rfl | rfl
          · exact blk_new z e
          · cases e
          · exact Nat.le_of_succ_le (blk_new z e)
        have hO2 : RdI prog h2 .u8 own xs := by
          have := O2.1
          rw [Nat.zero_add, List.nil_append] at this
          simpa [RdI] using this
        have hlt2 : ∀ z, blkOf own = some z → z < h2.size := fun z e => (hO2.blk_lt e).1
        have A2 : OA h0 h2 b r fv es xb Lv Nv E own := OA.fresh P1 K2 hown
        have nf2 : ¬ FamV h2 own h.size := fun F => by have := fam_ge K2 hown F; have := Vd.lt H1; omega
        obtain ⟨_, _, L2', _, _⟩ := LL V2
        simp only [List.getElem?_cons_succ, List.getElem?_cons_zero] at L2'
        have VN := Keeps.var H1 N2 Vd
        obtain ⟨_, _, _, _, L4'⟩ := LL VN
        simp only [List.getElem?_cons_succ, List.getElem?_cons_zero] at L4'
        simp only [wk, wt, wl, ↓reduceIte, Nat.reduceEqDiff, Nat.reduceAdd, Nat.zero_add, not_false_eq_true, not_true_eq_false, build0 underlying32 asz5, L4', e2, pt, L2']
        refine (put_ok' P2.s.m P2.s.d hO2 Q.isb).use ?_
        rintro _ h3 ⟨rfl, es3, M3, D3, C3, e3⟩
        have P3 := P2.left M3 D3 C3 (fun z e => .inr e) e3
        have V3 := Ch.var H2 C3 V2 nd2
        have A3 := A2.left P2 C3 hlt2 e3
        have nf3 : ¬ FamV h3 own h.size := fun F => (FamV.back C3 hlt2 F).elim (fun g => by have := V2.lt H2; omega) nf2
        have apO : ∀ z, blkOf own = some z → ¬ FDi h2 b r fv z := fun z e => fresh_apart H1 K2 P1.s.m.jlt (P1.s.m.var.lt H1) P1.s.m.lt (hown z e)
        have R3 : RdI prog h3 .u8 own xs := C3.rd hO2 apO
        have O3 : xs.length ≠ 0 → ∃ ws, OwnR prog h3 1 own xs.length ws := fun hne => by
          refine ⟨_, R3, fun z e => ?_⟩
          obtain ⟨kk, g1, g2⟩ := Own.mine O2 (by rw [Nat.zero_add]; exact hne) (by simpa [new_size] using hv) e
          exact ⟨kk, (C3.at (hlt2 z e) (apO z e)).trans g1, g2⟩
        have lenO := Rd.len R3 underlying32
        have hfew := Q.few
        simp only [wk, wt, wl, ↓reduceIte, Nat.reduceEqDiff, Nat.reduceAdd, Nat.zero_add, not_false_eq_true, not_true_eq_false]
        refine W_loop (fun tm h' => tm 1 = pt xb ∧ tm 5 = pt h.size ∧ tm 15 = own ∧ tm 16 = .int .i64 (numZ (roomZ D s xs.length)) ∧ ∃ (i : Nat), tm 17 = .int .i64 i ∧ i ≤ xs.length ∧ PS h0 h' b r fv fl es3 (putZ D s xs) xb Lv Nv E X fl ∧ (xs.length ≠ 0 → ∃ ws, OwnR prog h' 1 own xs.length ws) ∧
            OA h0 h' b r fv es3 xb Lv Nv E own ∧ Var h' h.size [.int .i64 k, .int .i64 n, .string s, lv, bv] ∧ ¬ FamV h' own h.size) (fun tm _ => (xs.length - intOf (tm 17)).toNat)
          ⟨(by first | rfl | (simp only [wk, wt, wl, ↓reduceIte, Nat.reduceEqDiff, Nat.reduceAdd, Nat.zero_add, not_false_eq_true, not_true_eq_false]; done) | (simp only [wk, wt, wl, ↓reduceIte, Nat.reduceEqDiff, Nat.reduceAdd, Nat.zero_add, not_false_eq_true, not_true_eq_false]; rfl)), (by first | rfl | (simp only [wk, wt, wl, ↓reduceIte, Nat.reduceEqDiff, Nat.reduceAdd, Nat.zero_add, not_false_eq_true, not_true_eq_false]; done) | (simp only [wk, wt, wl, ↓reduceIte, Nat.reduceEqDiff, Nat.reduceAdd, Nat.zero_add, not_false_eq_true, not_true_eq_false]; rfl)), (by first | rfl | (simp only [wk, wt, wl, ↓reduceIte, Nat.reduceEqDiff, Nat.reduceAdd, Nat.zero_add, not_false_eq_true, not_true_eq_false]; done) | (simp only [wk, wt, wl, ↓reduceIte, Nat.reduceEqDiff, Nat.reduceAdd, Nat.zero_add, not_false_eq_true, not_true_eq_false]; rfl)), (by first | rfl | (simp only [wk, wt, wl, ↓reduceIte, Nat.reduceEqDiff, Nat.reduceAdd, Nat.zero_add, not_false_eq_true, not_true_eq_false]; done) | (simp only [wk, wt, wl, ↓reduceIte, Nat.reduceEqDiff, Nat.reduceAdd, Nat.zero_add, not_false_eq_true, not_true_eq_false]; rfl)), 0, (by first | rfl | (simp only [wk, wt, wl, ↓reduceIte, Nat.reduceEqDiff, Nat.reduceAdd, Nat.zero_add, not_false_eq_true, not_true_eq_false]; done) | (simp only [wk, wt, wl, ↓reduceIte, Nat.reduceEqDiff, Nat.reduceAdd, Nat.zero_add, not_false_eq_true, not_true_eq_false]; rfl)), by omega, P3, O3, A3, V3, nf3⟩ ?_
        rintro tm h' ⟨t1, t5, t15, t16, i, t17, hi, P', O', A', V', nf'⟩
        simp only [wk, wt, wl, ↓reduceIte, Nat.reduceEqDiff, Nat.reduceAdd, Nat.zero_add, not_false_eq_true, not_true_eq_false, t15, t17, lenO]
        refine condK_dec (fun hd => ?_) (fun hd => ?_)
        · have hi1 : i < xs.length := by omega
          obtain ⟨ws, OW⟩ := O' (by omega)
          have IX := Rd.index OW.1 underlying32 asz5 (q := .i64) (i := (i : Int)) (by omega) (by omega)
          simp only [Int.toNat_natCast] at IX
          obtain ⟨h4, ws', e4, P4, O4, A4, q4⟩ := P'.store OW A' hi1 (w := 7)
          obtain ⟨V4, nf4⟩ := q4 _ _ V' nf'
          simp only [wk, wt, wl, ↓reduceIte, Nat.reduceEqDiff, Nat.reduceAdd, Nat.zero_add, not_false_eq_true, not_true_eq_false, t15, t17, IX, e4]
          simp (disch := omega) only [wk, wt, wl, ↓reduceIte, Nat.reduceEqDiff, Nat.reduceAdd, Nat.zero_add, not_false_eq_true, not_true_eq_false, t1, t5, t15, t16, t17, IntWalk.i64_in, intOf_int]
          all_goals exact ⟨⟨i + 1, by simp, by omega, P4, fun _ => ⟨ws', O4⟩, A4, V4, nf4⟩, by omega⟩
        · obtain ⟨_, _, L2'', _, L4''⟩ := LL V'
          simp only [List.getElem?_cons_succ, List.getElem?_cons_zero] at L2'' L4''
          simp only [wk, wt, wl, ↓reduceIte, Nat.reduceEqDiff, Nat.reduceAdd, Nat.zero_add, not_false_eq_true, not_true_eq_false, t1, t5, t15, t16, t17, pt, L2'', L4'']
          refine (refPut_ok P'.x hEl Q.name (Q.bytes.keeps P'.s.k) Q.isb (by have := Q.few; omega)).use ?_
          rintro _ h4 ⟨rfl, Lv4, Nv4, E4, M4, C4, n4, l4, e4⟩
          have P4 := P'.right M4 C4 n4 l4 e4
          have d1 : ∀ a : Int, decide (a = a) = true := fun a => decide_eq_true rfl
          simp only [wk, wt, wl, ↓reduceIte, Nat.reduceEqDiff, Nat.reduceAdd, Nat.zero_add, not_false_eq_true, not_true_eq_false, t16, A.room, d1]
          all_goals exact ⟨fl, _, _, ⟨A.putZ, _, _, _, _, _, _, P4⟩, Nat.le_succ _⟩
      · by_cases k3 : k = 3
        · simp only [wk, wt, wl, ↓reduceIte, Nat.reduceEqDiff, Nat.reduceAdd, Nat.zero_add, not_false_eq_true, not_true_eq_false, aeff_box, boxV_d Q.text.one Q.bytes.one, L0, decide_eq_false k0, decide_eq_false k1, decide_eq_false k2, decide_eq_true k3, pt, L2]
          refine (bytes_ok P1.s.m P1.s.d).use ?_
          rintro _ h2 ⟨got, rfl, RG, K2, hf, hw⟩
          have P2 := P1.keeps K2
          have H2 := Ch.wf K2
          have V2 := Keeps.var H1 K2 Vd
          obtain ⟨_, _, L2', _, _⟩ := LL V2
          simp only [List.getElem?_cons_succ, List.getElem?_cons_zero] at L2'
          simp only [wk, wt, wl, ↓reduceIte, Nat.reduceEqDiff, Nat.reduceAdd, Nat.zero_add, not_false_eq_true, not_true_eq_false, pt, L2']
          refine (refBytes_ok P2.x hEl Q.name).use ?_
          rintro _ h3 ⟨rfl, want, rfl, RW, hB⟩
          rw [A.bytL] at RG hw
          have d1 : ∀ a : Int, decide (a = a) = true := fun a => decide_eq_true rfl
          have lenO := Rd.len RG underlying32
          have A3 : OA h0 h3 b r fv es xb Lv Nv E got := OA.fresh P1 K2 hf
          have O3 : (bytL X s).length ≠ 0 → ∃ ws, OwnR prog h3 1 got (bytL X s).length ws := fun hne => ⟨_, RG, hw fun e => hne (by rw [e]; rfl)⟩
          obtain ⟨ys, hys⟩ : ∃ ys, bytL X s = ys := ⟨_, rfl⟩
          rw [hys] at RG RW O3 lenO
          simp only [wk, wt, wl, ↓reduceIte, Nat.reduceEqDiff, Nat.reduceAdd, Nat.zero_add, not_false_eq_true, not_true_eq_false, conv_str RG, conv_str RW, str_eqt, A.bytE, d1]
          refine W_loop (fun tm h' => tm 18 = got ∧ tm 22 = .bool true ∧ ∃ (i : Nat), tm 23 = .int .i64 i ∧ i ≤ ys.length ∧ PS h0 h' b r fv fl es D xb Lv Nv E X fl ∧ (ys.length ≠ 0 → ∃ ws, OwnR prog h' 1 got ys.length ws) ∧
              OA h0 h' b r fv es xb Lv Nv E got) (fun tm _ => (ys.length - intOf (tm 23)).toNat)
            ⟨(by first | rfl | (simp only [wk, wt, wl, ↓reduceIte, Nat.reduceEqDiff, Nat.reduceAdd, Nat.zero_add, not_false_eq_true, not_true_eq_false]; done) | (simp only [wk, wt, wl, ↓reduceIte, Nat.reduceEqDiff, Nat.reduceAdd, Nat.zero_add, not_false_eq_true, not_true_eq_false]; rfl)), (by first | rfl | (simp only [wk, wt, wl, ↓reduceIte, Nat.reduceEqDiff, Nat.reduceAdd, Nat.zero_add, not_false_eq_true, not_true_eq_false]; done) | (simp only [wk, wt, wl, ↓reduceIte, Nat.reduceEqDiff, Nat.reduceAdd, Nat.zero_add, not_false_eq_true, not_true_eq_false]; rfl)), 0, (by first | rfl | (simp only [wk, wt, wl, ↓reduceIte, Nat.reduceEqDiff, Nat.reduceAdd, Nat.zero_add, not_false_eq_true, not_true_eq_false]; done) | (simp only [wk, wt, wl, ↓reduceIte, Nat.reduceEqDiff, Nat.reduceAdd, Nat.zero_add, not_false_eq_true, not_true_eq_false]; rfl)), by omega, P2, O3, A3⟩ ?_
          rintro tm h' ⟨t18, t22, i, t23, hi, P', O', A'⟩
          simp only [wk, wt, wl, ↓reduceIte, Nat.reduceEqDiff, Nat.reduceAdd, Nat.zero_add, not_false_eq_true, not_true_eq_false, t18, t23, lenO]
          refine condK_dec (fun hd => ?_) (fun hd => ?_)
          · have hi1 : i < ys.length := by omega
            obtain ⟨ws, OW⟩ := O' (by omega)
            have IX := Rd.index OW.1 underlying32 asz5 (q := .i64) (i := (i : Int)) (by omega) (by omega)
            simp only [Int.toNat_natCast] at IX
            obtain ⟨h4, ws', e4, P4, O4, A4, q4⟩ := P'.store OW A' hi1 (w := 7)
            have hyl : ys.length ≤ 262144 := by
              obtain ⟨v, e, k1', k2', k3', k4', k5'⟩ := fet_key P2.s.d s
              rw [← hys, ← A.bytL]; exact k4'
            simp only [wk, wt, wl, ↓reduceIte, Nat.reduceEqDiff, Nat.reduceAdd, Nat.zero_add, not_false_eq_true, not_true_eq_false, t18, t23, IX, e4]
            simp (disch := omega) only [wk, wt, wl, ↓reduceIte, Nat.reduceEqDiff, Nat.reduceAdd, Nat.zero_add, not_false_eq_true, not_true_eq_false, t18, t22, t23, IntWalk.i64_in, intOf_int]
            all_goals exact ⟨⟨i + 1, by simp, by omega, P4, fun _ => ⟨ws', O4⟩, A4⟩, by omega⟩
          · simp only [wk, wt, wl, ↓reduceIte, Nat.reduceEqDiff, Nat.reduceAdd, Nat.zero_add, not_false_eq_true, not_true_eq_false, t22]
            all_goals exact ⟨fl, D, X, ⟨A, _, _, _, _, _, _, P'⟩, Nat.le_succ _⟩
        · simp only [wk, wt, wl, ↓reduceIte, Nat.reduceEqDiff, Nat.reduceAdd, Nat.zero_add, not_false_eq_true, not_true_eq_false, aeff_box, boxV_d Q.text.one Q.bytes.one, L0, decide_eq_false k0, decide_eq_false k1, decide_eq_false k2, decide_eq_false k3, pt, L1]
          refine (fails_ok P1.s.m (by omega)).use ?_
          rintro _ h2 ⟨rfl, fv2, M2, C2, n2⟩
          have P2 := P1.left M2 (P1.s.d.step P1.s.m H1 C2 n2) C2 n2 fun e he => .inl he
          have V2 := Ch.var H1 C2 Vd nd1
          obtain ⟨_, L1', _, _, _⟩ := LL V2
          simp only [List.getElem?_cons_succ, List.getElem?_cons_zero] at L1'
          have MN := P2.x.var.load1 (P := prog) (t := 27) underlying27 rfl (i := 1)
          simp only [List.getElem?_cons_succ, List.getElem?_cons_zero] at MN
          obtain ⟨h5, h6, e5, e6, Lv4, Nv4, E4, M4, C4, n4, l4, e4⟩ := P2.x.fail (n := n) (Ch.wf C2) (by omega)
          have P4 := P2.right M4 C4 n4 l4 e4
          refine adraw_order [(0, false), (1, false), (2, false), (3, false), (4, false), (5, false), (6, false), (7, true), (8, false), (9, false), (10, false), (11, false)] mixed (by kernel_rfl) (by kernel_rfl) (by kernel_rfl) (by with_reducible repeat (first | exact PF_retK | refine PF_thenK ?_ | refine PF_blockK ?_)) ?_
          simp only [wk, wt, wl, ↓reduceIte, Nat.reduceEqDiff, Nat.reduceAdd, Nat.zero_add, not_false_eq_true, not_true_eq_false, dK_t, pt, L1', MN, bi1, e5, e6]
          refine ⟨Keeps.reads (Ch.wf C2) (Keeps.new (Ch.wf C2) 3 [.int .i64 n]), _, D, X, ⟨A, _, _, _, _, _, _, P4⟩, by simp⟩
end
end Go.Proofs.YtiebaefhlacekaaGreatDoor.Am
end
