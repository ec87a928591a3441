/- The texts of this seat, one behind another (part 15 of 25): the frame (an abstract machine), the contracts of functions, the laws. -/
import Derived.Test.YthmpaddhmgnkbaaDoorZ14
import Derived.Test.YthmpaddhmgnkbaaDoorZ13
import Derived.Test.YthmpaddhmgnkbaaDoorChecked
import Derived.Shelf.Strconv.Itoa3
import Derived.Shelf.Lay
section
/- Numbers as texts: strconv.Itoa as the kit has it, told of abstract memory. -/
set_option linter.unusedSimpArgs false
set_option linter.unusedVariables false
namespace Go.Proofs
open Go.Shelf
shelf_lay LaysM.n171 Nm 171 at Tryd as Tryd.laysItoa
namespace YthmpaddhmgnkbaaDoor.Am
open Go Go.RowKit Go.Proofs.Tryd
theorem itoa_calls (n : Int) (h0 : -9223372036854775808 ≤ n) (h1 : n ≤ 9223372036854775807) (w : World) (htab : Lib.TabIs prog w "internal/strconv.uint64pow10" .u64 Lib.pow10Tab) :
    Calls prog 53 #[.int .i64 n] w fun e w' => e = .returned (.string ⟨(Lib.itoa n).toArray⟩) ∧ ∃ k os, w' = Sort.grow (w.drewN k) os := Any.strconv_Itoa Tryd.laysItoa n h0 h1 w htab
/-- The table of powers, whole. -/
def Gt (h : Heap) : Prop := ∃ k, h.get 1 = some k ∧ 1 < h.size ∧ k.live = true ∧ k.ro = true ∧ k.fam ≠ 0 ∧ k.cells = Lib.pow10Tab.map (Value.int .u64)
theorem Gt.keeps {h h' : Heap} (G : Gt h) (K : Keeps h h') : Gt h' := by
  obtain ⟨k, h1, h2, h3⟩ := G
  exact ⟨k, (K.at h2).trans h1, Nat.lt_of_lt_of_le h2 (Ch.le K), h3⟩
theorem gPow : prog.globalNamed "internal/strconv.uint64pow10" = some 1 := by kernel_rfl
theorem nGlob4 : prog.globals.size = 4 := by kernel_rfl
theorem Gt.tab {w0 w : World} {ρ : Ren} {h : Heap} (G : Gt h) (Hr : HRel prog w0 ρ h w) : Lib.TabIs prog w "internal/strconv.uint64pow10" .u64 Lib.pow10Tab := by
  obtain ⟨k, h1, h2, h3, h4, h5, h6⟩ := G
  obtain ⟨L, hL, hb, ho⟩ := Hr.globs 1 (by rw [nGlob4]; decide)
  have B := Hr.br h1 hL
  obtain ⟨arr, t, fr, ha, hs⟩ := B.whole h4 h5
  have hlt := B.came h4
  have hw : w.heap[L.blk]? = some (.cells arr t fr) := (Hr.below.block L.blk hlt).trans ha
  rw [hb] at hw
  unfold Lib.TabIs World.var?
  rw [gPow]
  simp only [Option.bind_some, hw, Option.some.injEq]
  refine Array.ext_getElem? fun i => ?_
  have e2 : ((Lib.pow10Tab.map fun z => Value.int IntKind.u64 z).toArray)[i]? = (Lib.pow10Tab.map (Value.int IntKind.u64))[i]? := List.getElem?_toArray
  rw [e2]
  by_cases hi : i < k.cells.length
  · obtain ⟨_, v', g1, g2⟩ := B.reads h3 i (k.cells[i]'hi) (List.getElem?_eq_getElem hi)
    have hci : (Lib.pow10Tab.map (Value.int IntKind.u64))[i]? = some (k.cells[i]'hi) := by rw [← h6]; exact List.getElem?_eq_getElem hi
    rw [hci]
    rw [hb] at g1
    simp only [World.cell?, hw, ho, Nat.zero_add, Option.isSome_none, Bool.false_eq_true, if_false] at g1
    rw [g1]
    rw [List.getElem?_map, Option.map_eq_some_iff] at hci
    obtain ⟨z, _, hz⟩ := hci
    rw [← hz] at g2 ⊢
    rw [g2.int_inv]
  · have e1 : arr[i]? = none := Array.getElem?_eq_none (by omega)
    rw [e1]
    exact (List.getElem?_eq_none (by rw [← h6]; omega)).symm
theorem dec_dig : ∀ (k : Nat) (n : Nat), n < 10 ^ (k + 1) → (Lib.decDigits n).map (fun b : UInt8 => (b.toNat : Int)) = digF k (n : Int)
  | 0, n, h => by
    have h : n < 10 := by simpa using h
    rw [Lib.decDigits_one h]
    simp only [List.map_cons, List.map_nil, digF]
    rw [UInt8.toNat_ofNat']
    congr 1; omega
  | k + 1, n, h => by
    unfold digF
    by_cases hn : n < 10
    · rw [Lib.decDigits_one hn, if_pos (by omega)]
      simp only [List.map_cons, List.map_nil]
      rw [UInt8.toNat_ofNat']
      congr 1; omega
    · rw [if_neg (by omega), Lib.decDigits, dif_neg hn, List.map_append, dec_dig k (n / 10) (by rw [Nat.pow_succ] at h; omega)]
      simp only [List.map_cons, List.map_nil]
      rw [UInt8.toNat_ofNat']
      congr 1
      congr 1; omega
theorem str_of {l : List UInt8} : (⟨l.toArray⟩ : ByteArray) = strOfNums (l.map fun b : UInt8 => (b.toNat : Int)) := by
  apply ByteArray.ext
  apply Array.ext'
  rw [strOfNums_data]
  simp only [List.map_map]
  rw [List.map_congr_left (g := id)]
  · simp
  · intro b _
    simp
theorem itoa_ok {h : Heap} {n : Nat} (hn : n < 10000) (G : Gt h) : ACalls prog 53 #[.int .i64 (n : Int)] h (fun y h' => y = .string (strOfNums (digF 3 (n : Int))) ∧ h' = h) := by
  intro w0 ρ w args' Hr A
  have h1 := A.1
  obtain ⟨y, hy, hr⟩ := A.get (i := 0) (x := .int .i64 (n : Int)) rfl
  have := hr.int_inv; subst this
  have hargs : args' = #[.int .i64 (n : Int)] := by
    refine Array.ext' ?_
    obtain ⟨l⟩ := args'
    match l, h1, hy with
    | [p], _, hy => simp at hy; simp [hy]
  subst hargs
  refine (itoa_calls (n : Int) (by omega) (by omega) w (G.tab Hr)).mono fun e w' hq => ?_
  obtain ⟨rfl, k, os, rfl⟩ := hq
  have hb : Below w.heap.size w (Sort.grow (w.drewN k) os) := ⟨rfl, rfl, rfl, by simp [Sort.grow, World.drewN], fun j hj => by
    simp only [Sort.grow, World.drewN]
    rw [Array.getElem?_append_left hj]⟩
  refine ⟨ρ, h, .string (strOfNums (digF 3 (n : Int))), _, RenLe.refl _, Hr.keep hb, ?_, .inl ⟨rfl, rfl, rfl⟩⟩
  rw [Lib.itoa_nonneg, str_of, dec_dig 3 n (by omega)]
  exact VR.string _
end YthmpaddhmgnkbaaDoor.Am
end Go.Proofs
end
section
/- What gathers bytes: contracts of emit.place and of out's add, goes, paint, by walks. -/
set_option linter.unusedSimpArgs false
set_option linter.unusedVariables false
set_option maxHeartbeats 8000000
set_option maxRecDepth 20000
namespace Go.Proofs.YthmpaddhmgnkbaaDoor.Am
open Go Go.RowKit Go.Proofs.Tryd
structure OX where
  b : List Int
  attr : Int
  pos : Int
def oC (v : Value) (O : OX) : List Value := [v, .int .i64 O.attr, .int .i64 O.pos]
def fwdL (n : Int) : List Int := [27, 91] ++ (digF 3 n ++ [67])
def placeL (i C : Int) : List Int := atL (i / C + 1) (i % C + 1)
def goesO (O : OX) (i C : Int) : OX := if O.pos = i then O else ⟨O.b ++ (if 0 ≤ O.pos ∧ O.pos < i ∧ i / C = O.pos / C then fwdL (i - O.pos) else placeL i C), O.attr, i⟩
def paintO (O : OX) (a : Int) : OX := if a = O.attr then O else ⟨O.b ++ (if a = 1 then [27, 91, 55, 109] else [27, 91, 109]), a, O.pos⟩
/-- What gathers bytes, in memory: the row grows in families Os. -/
structure OutV (h : Heap) (B : Nat) (Os : Nat → Prop) (o : Nat) (O : OX) (bv : Value) : Prop where
  var : Var h o (oC bv O)
  own : Own prog B h 1 bv O.b.length (bI O.b)
  nb : blkOf bv ≠ some o
  fam : Fam h Os bv
  os : Os o
  up : ∀ n, h.size ≤ n → Os n
  bo : B ≤ o
def OutP (h : Heap) (B : Nat) (Os : Nat → Prop) (o : Nat) (O : OX) : Prop := ∃ bv, OutV h B Os o O bv
def DO (B : Nat) (Os : Nat → Prop) (h : Heap) (x : Nat) : Prop := Rg Os h x ∧ B ≤ x
section
variable {h h' h'' : Heap} {B : Nat} {Os : Nat → Prop} {o : Nat} {O : OX} {bv : Value}
theorem Ch.thenO (C1 : Ch (DO B Os h) h h') (C2 : Ch (DO B Os h') h' h'') : Ch (DO B Os h) h h'' := C1.then C2 fun x F => by
  obtain ⟨k, g, f⟩ := F.1
  rcases Nat.lt_or_ge x h.size with hx | hx
  · obtain ⟨k0, g0, e⟩ := C1.2.2.2.2.1 x k hx g
    exact .inr ⟨⟨k0, g0, by rw [← e]; exact f⟩, F.2⟩
  · exact .inl hx
theorem Keeps.cdo (K : Keeps h h') : Ch (DO B Os h) h h' := Ch.mono K fun _ e => e.elim
theorem OutV.keeps (Q : OutV h B Os o O bv) (H : Wf h) (K : Keeps h h') : OutV h' B Os o O bv :=
  ⟨Keeps.var H K Q.var, Q.own.keeps K, Q.nb, Q.fam.ch K fun z e => (Rd.blk_lt Q.own.1 e).1, Q.os, fun n hn => Q.up n (Nat.le_trans (Ch.le K) hn), Q.bo⟩
theorem OutP.keeps (P : OutP h B Os o O) (H : Wf h) (K : Keeps h h') : OutP h' B Os o O := by
  obtain ⟨bv, Q⟩ := P
  exact ⟨bv, Q.keeps H K⟩
theorem OutV.loads (Q : OutV h B Os o O bv) : aload prog h 30 ⟨o, 0, none⟩ = some bv ∧ aload prog h 3 ⟨o, 1, none⟩ = some (.int .i64 O.attr) ∧ aload prog h 3 ⟨o, 2, none⟩ = some (.int .i64 O.pos) :=
  ⟨Q.var.load1 underlying30 rfl (i := 0), Q.var.load1 underlying3 rfl (i := 1), Q.var.load1 underlying3 rfl (i := 2)⟩
/-- A number of the struct that is written. -/
theorem OutV.put (Q : OutV h B Os o O bv) (H : Wf h) {i : Nat} {z : Int} {O' : OX} (hi : 1 ≤ i ∧ i < 3) (e : (oC bv O).set i (.int .i64 z) = oC bv O') (eb : O'.b = O.b) :
    ∃ h', storeV prog h 3 (.pointer (some ⟨o, i, none⟩)) (.int .i64 z) = some (undef, h') ∧ OutV h' B Os o O' bv ∧ Ch (DO B Os h) h h' := by
  obtain ⟨h', s, V, C, z⟩ := Q.var.store1 (P := prog) (t := 3) (v := .int .i64 z) (i := i) H asz3 (by simp [oC]; omega) rfl
  rw [e] at V
  refine ⟨h', s, ⟨V, ?_, Q.nb, Q.fam.ch C fun z e => (Rd.blk_lt Q.own.1 e).1, Q.os, fun n hn => Q.up n (Nat.le_trans (Ch.le C) hn), Q.bo⟩, C.mono fun x hx => ?_⟩
  · rw [eb]; exact Ch.own C Q.own fun z e e' => Q.nb (by rw [e, e'])
  · subst hx
    exact ⟨Q.var.rg Q.os, Q.bo⟩
end
theorem bytesO {s : List Int} (hs : ∀ x, x ∈ s → isB x) {h : Heap} : anews h 1 (.string (strOfNums s)) = some (s.length, bI s) := by
  have e := bytesStr hs
  have h2 : bytesOf' (strOfNums s) = bytesV (strOfNums s) := rfl
  simp only [anews, if_true, h2, e, strOfNums_size]
  rfl
/-- Bytes behind the row: what an append and the store leave. -/
theorem OutV.more {h : Heap} {B : Nat} {Os : Nat → Prop} {o : Nat} {O : OX} {bv x : Value} {s : List Int} {t2 : TypeId} {d2 : TypeDesc} (Q : OutV h B Os o O bv) (H : Wf h) (hB : B ≤ h.size) (ht2 : prog.underlying t2 = some d2) (hd2 : isRowD d2 = true)
    (hx : anews h 1 x = some (s.length, bI s)) (h0 : 0 < s.length) (hl : O.b.length + s.length ≤ 100000000000) :
    ∃ v' h1 h2, aappend prog h 30 t2 bv x = some (v', h1) ∧ storeV prog h1 30 (.pointer (some ⟨o, 0, none⟩)) v' = some (undef, h2) ∧ OutV h2 B Os o ⟨O.b ++ s, O.attr, O.pos⟩ v' ∧ Ch (DO B Os h) h h2 ∧ Ch (DO B Os h) h h1 ∧ Reads h h1 := by
  obtain ⟨fz, fb, fs⟩ := fits5
  obtain ⟨h1, e1, O1, z1, R1, C1, k, g1, g2, g3⟩ := Own.append (P := prog) H hB Q.own underlying30 ht2 hd2 elem5 fz (by rw [fb]; decide) fs hx h0 (by rw [bI_len]; omega) (by rw [fb]; omega)
  have hlt := Q.var.lt H
  have V1 := Ch.var H C1 Q.var fun e => Q.nb e.1
  obtain ⟨h2, s2, V2, C2, z2⟩ := V1.store1 (P := prog) (t := 30) (v := .slice (some ⟨h.size, 0, none⟩) (O.b.length + s.length) 0) (i := 0) (Ch.wf C1) asz30 (by simp [oC]) rfl
  have hbv : blkOf (Value.slice (some ⟨h.size, 0, none⟩) (O.b.length + s.length) 0) = some h.size := rfl
  have D1 : Ch (DO B Os h) h h1 := C1.mono fun x hx => by
    obtain ⟨hlx, k', gk, _⟩ := Rd.blk_lt Q.own.1 hx.1
    exact ⟨⟨k', gk, Q.fam x k' hx.1 gk⟩, hx.2⟩
  have D2 : Ch (DO B Os h1) h1 h2 := C2.mono fun x hx => by
    subst hx
    exact ⟨V1.rg Q.os, Q.bo⟩
  have F1 : Fam h1 Os (Value.slice (some ⟨h.size, 0, none⟩) (O.b.length + s.length) 0) := fun z k' e g => by
    cases e
    rw [g1] at g; cases g
    rcases g3 with g3 | ⟨b, k0, e, _, gk, e3⟩
    · rw [g3]; exact Q.up _ (Nat.le_refl _)
    · rw [e3]; exact Q.fam b k0 e gk
  refine ⟨_, h1, h2, e1, s2, ⟨?_, ?_, fun e => by rw [hbv] at e; cases e; omega, F1.ch C2 fun z e => by cases e; show h.size < h1.size; omega, Q.os, fun n hn => Q.up n (by omega), Q.bo⟩, D1.thenO D2, D1, R1⟩
  · simpa [oC] using V2
  · have := Ch.own C2 O1 fun z e e' => by rw [hbv] at e; cases e; omega
    simp only [List.length_append, bI_append]
    exact this
theorem add_ok {h : Heap} {B : Nat} {Os : Nat → Prop} {o : Nat} {O : OX} {s : List Int} (P : OutP h B Os o O) (hB : B ≤ h.size) (hs : ∀ x, x ∈ s → isB x) (h0 : 0 < s.length) (hl : O.b.length + s.length ≤ 100000000000) :
    ACalls prog 26 #[pt o, .string (strOfNums s)] h (fun y h' => OutP h' B Os o ⟨O.b ++ s, O.attr, O.pos⟩ ∧ Ch (DO B Os h) h h') := by
  refine acalls_of_W' func26 rfl (by kernel_rfl) (by kernel_rfl) (by simp [ntmps26]) ?_
  intro H
  obtain ⟨bv, Q⟩ := P
  obtain ⟨l0, _⟩ := Q.loads
  obtain ⟨v', h1, h2, e1, s2, Q2, C2, _⟩ := Q.more H hB (t2 := 9) underlying9 rfl (bytesO hs) h0 hl
  simp only [wk, wt, wl, ↓reduceIte, Nat.reduceEqDiff, Nat.reduceAdd, wz, pt, nilV_ptr, l0, e1, s2]
  exact ⟨⟨_, Q2⟩, C2⟩
theorem lit2 : (⟨#[27, 91]⟩ : ByteArray) = strOfNums [27, 91] := by decide
theorem lit59 : (⟨#[59]⟩ : ByteArray) = strOfNums [59] := by decide
theorem lit72 : (⟨#[72]⟩ : ByteArray) = strOfNums [72] := by decide
theorem lit67 : (⟨#[67]⟩ : ByteArray) = strOfNums [67] := by decide
theorem lit7 : (⟨#[27, 91, 55, 109]⟩ : ByteArray) = strOfNums [27, 91, 55, 109] := by decide
theorem litm : (⟨#[27, 91, 109]⟩ : ByteArray) = strOfNums [27, 91, 109] := by decide
theorem dig_len {n : Int} : (digF 3 n).length ≤ 4 ∧ 1 ≤ (digF 3 n).length := digF_len 3 n
theorem place_ok {h : Heap} {i C : Int} (G : Gt h) (h0 : 0 ≤ i) (hC : 1 ≤ C ∧ C ≤ 1000) (hi : i / C < 9999) :
    ACalls prog 29 #[.int .i64 i, .int .i64 C] h (fun y h' => y = .string (strOfNums (placeL i C)) ∧ h' = h) := by
  refine acalls_of_W func29 rfl (by kernel_rfl) (by kernel_rfl) (by simp [ntmps29]) ?_
  have q0 := Int.ediv_nonneg h0 (show 0 ≤ C by omega)
  have m0 := Int.emod_nonneg i (show C ≠ 0 by omega)
  have m1 := Int.emod_lt_of_pos i (show 0 < C by omega)
  have QQ := abin_quo (P := prog) (t := 3) (k := .i64) (x := i) (y := C) (by omega)
  rw [Int.tdiv_eq_ediv_of_nonneg h0] at QQ
  have RR := abin_rem (P := prog) (t := 3) (k := .i64) (x := i) (y := C) (by omega)
  rw [Int.tmod_eq_emod_of_nonneg h0] at RR
  have w1 : IntKind.i64.wrap (i / C) = i / C := IntWalk.i64_in _ (by omega)
  have w2 : IntKind.i64.wrap (i / C + 1) = ((i / C + 1).toNat : Int) := by rw [IntWalk.i64_in _ (by omega)]; omega
  have w3 : IntKind.i64.wrap (i % C + 1) = ((i % C + 1).toNat : Int) := by rw [IntWalk.i64_in _ (by omega)]; omega
  have n1 : ((i / C + 1).toNat : Int) = i / C + 1 := by omega
  have n2 : ((i % C + 1).toNat : Int) = i % C + 1 := by omega
  have d1 := dig_len (n := i / C + 1)
  have d2 := dig_len (n := i % C + 1)
  have A1 := strAdd (a := [27, 91]) (b := digF 3 (i / C + 1)) (by simp; omega)
  have A2 := strAdd (a := [27, 91] ++ digF 3 (i / C + 1)) (b := [59]) (by simp; omega)
  have A3 := strAdd (a := [27, 91] ++ digF 3 (i / C + 1) ++ [59]) (b := digF 3 (i % C + 1)) (by simp; omega)
  have A4 := strAdd (a := [27, 91] ++ digF 3 (i / C + 1) ++ [59] ++ digF 3 (i % C + 1)) (b := [72]) (by simp; omega)
  simp only [wk, wt, wl, ↓reduceIte, Nat.reduceEqDiff, Nat.reduceAdd, wz]
  refine adraw_order [(0, false), (1, false), (2, false), (3, false), (7, false), (8, false), (9, false), (10, false), (4, true), (5, false), (6, false), (11, true), (12, false), (13, false), (14, false)] mixed (by kernel_rfl) (by kernel_rfl) (by kernel_rfl) (by with_reducible repeat (first | exact PF_retK | refine PF_thenK ?_ | refine PF_blockK ?_)) ?_
  simp only [wk, wt, wl, ↓reduceIte, Nat.reduceEqDiff, Nat.reduceAdd, wz, dK_t, QQ, RR, w1, w2, w3]
  refine (itoa_ok (by omega) G).use_pure ?_
  rw [n1]
  simp only [wk, wt, wl, ↓reduceIte, Nat.reduceEqDiff, Nat.reduceAdd, wz, dK_t, QQ, RR, w1, w2, w3, lit2, lit59, lit72, A1, A2]
  refine ⟨Reads.refl _, ?_⟩
  refine (itoa_ok (by omega) G).use_pure ?_
  rw [n2]
  simp only [wk, wt, wl, ↓reduceIte, Nat.reduceEqDiff, Nat.reduceAdd, wz, dK_t, lit2, lit59, lit72, A3, A4]
  refine ⟨Reads.refl _, ?_⟩
  unfold placeL atL
  simp
theorem dig_B {n : Int} (h : 0 ≤ n ∧ n < 10000) : ∀ x, x ∈ digF 3 n → isB x := fun x hx => by
  have := digF_bd 3 n h.1 (by omega) x hx
  simp only [isB]; omega
theorem place_B {i C : Int} (h0 : 0 ≤ i) (hC : 1 ≤ C ∧ C ≤ 1000) (hi : i / C < 9999) : ∀ x, x ∈ placeL i C → isB x := fun x hx => by
  have q0 := Int.ediv_nonneg h0 (show 0 ≤ C by omega)
  have m0 := Int.emod_nonneg i (show C ≠ 0 by omega)
  have m1 := Int.emod_lt_of_pos i (show 0 < C by omega)
  unfold placeL atL at hx
  simp only [List.mem_append, List.mem_cons, List.not_mem_nil, or_false] at hx
  rcases hx with (rfl | rfl) | hx | rfl | hx | rfl
  · simp [isB]
  · simp [isB]
  · exact dig_B (by omega) x hx
  · simp [isB]
  · exact dig_B (by omega) x hx
  · simp [isB]
theorem fwdL_B {a : Int} (ha : 0 ≤ a ∧ a < 10000) : ∀ x, x ∈ fwdL a → isB x := fun x hx => by
  unfold fwdL at hx
  simp only [List.mem_append, List.mem_cons, List.not_mem_nil, or_false] at hx
  rcases hx with (rfl | rfl) | hx | rfl
  · simp [isB]
  · simp [isB]
  · exact dig_B ha x hx
  · simp [isB]
theorem place_len {i C : Int} : (placeL i C).length ≤ 12 ∧ 6 ≤ (placeL i C).length := by
  have d1 := dig_len (n := i / C + 1)
  have d2 := dig_len (n := i % C + 1)
  unfold placeL atL
  simp only [List.length_append, List.length_cons, List.length_nil]
  omega
theorem fwd_len {n : Int} : (fwdL n).length ≤ 7 ∧ 4 ≤ (fwdL n).length := by
  have d1 := dig_len (n := n)
  unfold fwdL
  simp only [List.length_append, List.length_cons, List.length_nil]
  omega
theorem goes_ok {h : Heap} {B : Nat} {Os : Nat → Prop} {o : Nat} {O : OX} {i C : Int} (P : OutP h B Os o O) (G : Gt h) (hB : B ≤ h.size) (hg : 1 < B) (hl : O.b.length ≤ 10000000000) (h0 : 0 ≤ i) (hC : 1 ≤ C ∧ C ≤ 1000) (hi : i / C < 9999) (hp : -1 ≤ O.pos ∧ O.pos ≤ 10000000) (hi2 : i ≤ 10000000) :
    ACalls prog 34 #[pt o, .int .i64 i, .int .i64 C] h (fun y h' => OutP h' B Os o (goesO O i C) ∧ Ch (DO B Os h) h h') := by
  refine acalls_of_W' func34 rfl (by kernel_rfl) (by kernel_rfl) (by simp [ntmps34]) ?_
  intro H
  obtain ⟨bv, Q⟩ := P
  obtain ⟨l0, l1, l2⟩ := Q.loads
  unfold goesO
  by_cases e : O.pos = i
  · have d1 := decide_eq_true e
    rw [if_pos e]
    simp only [wk, wt, wl, ↓reduceIte, Nat.reduceEqDiff, Nat.reduceAdd, wz, pt, nilV_ptr, l2, d1]
    exact ⟨⟨bv, Q⟩, (Keeps.refl H).cdo⟩
  rw [if_neg e]
  have d1 := decide_eq_false e
  have q0 := Int.ediv_nonneg h0 (show 0 ≤ C by omega)
  have QI := abin_quo (P := prog) (t := 3) (k := .i64) (x := i) (y := C) (by omega)
  rw [Int.tdiv_eq_ediv_of_nonneg h0] at QI
  have w1 : IntKind.i64.wrap (i / C) = i / C := IntWalk.i64_in _ (by omega)
  have last : ∀ (h1 : Heap) (s : List Int), OutP h1 B Os o ⟨O.b ++ s, O.attr, O.pos⟩ → Wf h1 → Ch (DO B Os h) h h1 → ∃ h2, storeV prog h1 3 (.pointer (some ⟨o, 2, none⟩)) (.int .i64 i) = some (undef, h2) ∧ OutP h2 B Os o ⟨O.b ++ s, O.attr, i⟩ ∧ Ch (DO B Os h) h h2 := fun h1 s P1 H1 C1 => by
    obtain ⟨bv1, Q1⟩ := P1
    obtain ⟨h2, s2, Q2, C2⟩ := Q1.put H1 (i := 2) (z := i) (O' := ⟨O.b ++ s, O.attr, i⟩) (by omega) rfl rfl
    exact ⟨h2, s2, ⟨bv1, Q2⟩, C1.thenO C2⟩
  have pl := place_len (i := i) (C := C)
  have PB := place_B h0 hC hi
  have toPlace : ∀ {Z : Prop}, Z → Z := id
  by_cases f : 0 ≤ O.pos ∧ O.pos < i ∧ i / C = O.pos / C
  · rw [if_pos f]
    obtain ⟨f0, f1, f2⟩ := f
    have QP := abin_quo (P := prog) (t := 3) (k := .i64) (x := O.pos) (y := C) (by omega)
    rw [Int.tdiv_eq_ediv_of_nonneg f0] at QP
    have w2 : IntKind.i64.wrap (O.pos / C) = O.pos / C := IntWalk.i64_in _ (by omega)
    have d2 : decide (0 ≤ O.pos) = true := decide_eq_true f0
    have d3 : decide (O.pos < i) = true := decide_eq_true f1
    have d4 : decide (i / C = O.pos / C) = true := decide_eq_true f2
    have k1 := Int.emod_add_mul_ediv i C
    have k2 := Int.emod_add_mul_ediv O.pos C
    rw [← f2] at k2
    have m0 := Int.emod_nonneg O.pos (show C ≠ 0 by omega)
    have m1 := Int.emod_lt_of_pos i (show 0 < C by omega)
    have w3 : IntKind.i64.wrap (i - O.pos) = ((i - O.pos).toNat : Int) := by rw [IntWalk.i64_in _ (by omega)]; omega
    have n3 : ((i - O.pos).toNat : Int) = i - O.pos := by omega
    have dl := dig_len (n := i - O.pos)
    have A1 := strAdd (a := [27, 91]) (b := digF 3 (i - O.pos)) (by simp; omega)
    have A2 := strAdd (a := [27, 91] ++ digF 3 (i - O.pos)) (b := [67]) (by simp; omega)
    have fl := fwd_len (n := i - O.pos)
    have e3 : [27, 91] ++ digF 3 (i - O.pos) ++ [67] = fwdL (i - O.pos) := by unfold fwdL; simp
    rw [e3] at A2
    simp only [wk, wt, wl, ↓reduceIte, Nat.reduceEqDiff, Nat.reduceAdd, wz, pt, nilV_ptr, l2, d1]
    refine adraw_order [(0, false), (1, false), (2, false), (3, false), (4, false), (5, false), (6, false), (7, false), (8, false), (9, false), (10, false), (11, false), (12, false), (13, false), (14, false), (15, false), (16, false), (17, false), (18, false), (19, false), (20, false), (21, false), (22, false), (23, false), (24, false)] mixed (by kernel_rfl) (by kernel_rfl) (by kernel_rfl) (by with_reducible repeat (first | exact PF_retK | refine PF_thenK ?_ | refine PF_blockK ?_)) ?_
    simp only [wk, wt, wl, ↓reduceIte, Nat.reduceEqDiff, Nat.reduceAdd, wz, dK_t, pt, nilV_ptr, l2, d2, d3, QI, QP, w1, w2, d4]
    simp only [wk, wt, wl, ↓reduceIte, Nat.reduceEqDiff, Nat.reduceAdd, wz, pt, nilV_ptr, l2, w3]
    refine (itoa_ok (by omega) G).use_pure ?_
    rw [n3]
    simp only [wk, wt, wl, ↓reduceIte, Nat.reduceEqDiff, Nat.reduceAdd, wz, lit2, lit67, A1, A2]
    refine (add_ok ⟨bv, Q⟩ hB (fwdL_B (by omega)) (by omega) (by omega)).use ?_
    rintro _ h1 ⟨P1, C1⟩
    obtain ⟨h2, s2, P2, C2⟩ := last h1 _ P1 (Ch.wf C1) C1
    simp only [wk, wt, wl, ↓reduceIte, Nat.reduceEqDiff, Nat.reduceAdd, wz, pt, nilV_ptr, s2]
    exact ⟨P2, C2⟩
  · rw [if_neg f]
    by_cases f0 : 0 ≤ O.pos
    · have d2 : decide (0 ≤ O.pos) = true := decide_eq_true f0
      have QP := abin_quo (P := prog) (t := 3) (k := .i64) (x := O.pos) (y := C) (by omega)
      rw [Int.tdiv_eq_ediv_of_nonneg f0] at QP
      have hq2 := Int.ediv_nonneg f0 (show 0 ≤ C by omega)
      have hq3 : O.pos / C ≤ O.pos := Int.ediv_le_self _ f0
      have w2 : IntKind.i64.wrap (O.pos / C) = O.pos / C := IntWalk.i64_in _ (by omega)
      by_cases f1 : O.pos < i
      · have d3 : decide (O.pos < i) = true := decide_eq_true f1
        have d4 : decide (i / C = O.pos / C) = false := decide_eq_false fun e => f ⟨f0, f1, e⟩
        simp only [wk, wt, wl, ↓reduceIte, Nat.reduceEqDiff, Nat.reduceAdd, wz, pt, nilV_ptr, l2, d1]
        refine adraw_order [(0, false), (1, false), (2, false), (3, false), (4, false), (5, false), (6, false), (7, false), (8, false), (9, false), (10, false), (11, false), (12, false), (13, false), (14, false), (15, false), (16, false), (17, false), (18, false), (19, false), (20, false), (21, false), (22, false), (23, false), (24, false)] mixed (by kernel_rfl) (by kernel_rfl) (by kernel_rfl) (by with_reducible repeat (first | exact PF_retK | refine PF_thenK ?_ | refine PF_blockK ?_)) ?_
        simp only [wk, wt, wl, ↓reduceIte, Nat.reduceEqDiff, Nat.reduceAdd, wz, dK_t, pt, nilV_ptr, l2, d2, d3, QI, QP, w1, w2, d4]
        refine (place_ok G h0 hC hi).use_pure ?_
        simp only [wk, wt, wl, ↓reduceIte, Nat.reduceEqDiff, Nat.reduceAdd, wz]
        refine (add_ok ⟨bv, Q⟩ hB PB (by omega) (by omega)).use ?_
        rintro _ h1 ⟨P1, C1⟩
        obtain ⟨h2, s2, P2, C2⟩ := last h1 _ P1 (Ch.wf C1) C1
        simp only [wk, wt, wl, ↓reduceIte, Nat.reduceEqDiff, Nat.reduceAdd, wz, pt, nilV_ptr, s2]
        exact ⟨P2, C2⟩
      · have d3 : decide (O.pos < i) = false := decide_eq_false f1
        simp only [wk, wt, wl, ↓reduceIte, Nat.reduceEqDiff, Nat.reduceAdd, wz, pt, nilV_ptr, l2, d1]
        refine adraw_order [(0, false), (1, false), (2, false), (3, false), (4, false), (5, false), (6, false), (7, false), (8, false), (9, false), (10, false), (11, false), (12, false), (13, false), (14, false), (15, false), (16, false), (17, false), (18, false), (19, false), (20, false), (21, false), (22, false), (23, false), (24, false)] mixed (by kernel_rfl) (by kernel_rfl) (by kernel_rfl) (by with_reducible repeat (first | exact PF_retK | refine PF_thenK ?_ | refine PF_blockK ?_)) ?_
        simp only [wk, wt, wl, ↓reduceIte, Nat.reduceEqDiff, Nat.reduceAdd, wz, dK_t, pt, nilV_ptr, l2, d2, d3]
        refine (place_ok G h0 hC hi).use_pure ?_
        simp only [wk, wt, wl, ↓reduceIte, Nat.reduceEqDiff, Nat.reduceAdd, wz]
        refine (add_ok ⟨bv, Q⟩ hB PB (by omega) (by omega)).use ?_
        rintro _ h1 ⟨P1, C1⟩
        obtain ⟨h2, s2, P2, C2⟩ := last h1 _ P1 (Ch.wf C1) C1
        simp only [wk, wt, wl, ↓reduceIte, Nat.reduceEqDiff, Nat.reduceAdd, wz, pt, nilV_ptr, s2]
        exact ⟨P2, C2⟩
    · have d2 : decide (0 ≤ O.pos) = false := decide_eq_false f0
      simp only [wk, wt, wl, ↓reduceIte, Nat.reduceEqDiff, Nat.reduceAdd, wz, pt, nilV_ptr, l2, d1]
      refine adraw_order [(0, false), (1, false), (2, false), (3, false), (4, false), (5, false), (6, false), (7, false), (8, false), (9, false), (10, false), (11, false), (12, false), (13, false), (14, false), (15, false), (16, false), (17, false), (18, false), (19, false), (20, false), (21, false), (22, false), (23, false), (24, false)] mixed (by kernel_rfl) (by kernel_rfl) (by kernel_rfl) (by with_reducible repeat (first | exact PF_retK | refine PF_thenK ?_ | refine PF_blockK ?_)) ?_
      simp only [wk, wt, wl, ↓reduceIte, Nat.reduceEqDiff, Nat.reduceAdd, wz, dK_t, pt, nilV_ptr, l2, d2]
      refine (place_ok G h0 hC hi).use_pure ?_
      simp only [wk, wt, wl, ↓reduceIte, Nat.reduceEqDiff, Nat.reduceAdd, wz]
      refine (add_ok ⟨bv, Q⟩ hB PB (by omega) (by omega)).use ?_
      rintro _ h1 ⟨P1, C1⟩
      obtain ⟨h2, s2, P2, C2⟩ := last h1 _ P1 (Ch.wf C1) C1
      simp only [wk, wt, wl, ↓reduceIte, Nat.reduceEqDiff, Nat.reduceAdd, wz, pt, nilV_ptr, s2]
      exact ⟨P2, C2⟩
theorem paint_ok {h : Heap} {B : Nat} {Os : Nat → Prop} {o : Nat} {O : OX} {a : Int} (P : OutP h B Os o O) (hB : B ≤ h.size) (hl : O.b.length ≤ 10000000000) :
    ACalls prog 35 #[pt o, .int .i64 a] h (fun y h' => OutP h' B Os o (paintO O a) ∧ Ch (DO B Os h) h h') := by
  refine acalls_of_W' func35 rfl (by kernel_rfl) (by kernel_rfl) (by simp [ntmps35]) ?_
  intro H
  obtain ⟨bv, Q⟩ := P
  obtain ⟨l0, l1, l2⟩ := Q.loads
  unfold paintO
  have last : ∀ (h1 : Heap) (O1 : OX), OutP h1 B Os o O1 → Wf h1 → Ch (DO B Os h) h h1 → ∃ h2, storeV prog h1 3 (.pointer (some ⟨o, 1, none⟩)) (.int .i64 a) = some (undef, h2) ∧ OutP h2 B Os o ⟨O1.b, a, O1.pos⟩ ∧ Ch (DO B Os h) h h2 := fun h1 O1 P1 H1 C1 => by
    obtain ⟨bv1, Q1⟩ := P1
    obtain ⟨h2, s2, Q2, C2⟩ := Q1.put H1 (i := 1) (z := a) (O' := ⟨O1.b, a, O1.pos⟩) (by omega) rfl rfl
    exact ⟨h2, s2, ⟨bv1, Q2⟩, C1.thenO C2⟩
  by_cases e : a = O.attr
  · have d1 := decide_eq_true e
    rw [if_pos e]
    obtain ⟨h2, s2, P2, C2⟩ := last h O ⟨bv, Q⟩ H (Keeps.refl H).cdo
    simp only [wk, wt, wl, ↓reduceIte, Nat.reduceEqDiff, Nat.reduceAdd, wz, pt, nilV_ptr, l1, d1, s2]
    have : (⟨O.b, a, O.pos⟩ : OX) = O := by rw [e]
    rw [this] at P2
    exact ⟨P2, C2⟩
  have d1 := decide_eq_false e
  rw [if_neg e]
  by_cases f : a = 1
  · have d2 := decide_eq_true f
    rw [if_pos f]
    simp only [wk, wt, wl, ↓reduceIte, Nat.reduceEqDiff, Nat.reduceAdd, wz, pt, nilV_ptr, l1, d1, d2, lit7]
    refine (add_ok ⟨bv, Q⟩ hB (s := [27, 91, 55, 109]) (by simp [isB]) (by simp) (by simp; omega)).use ?_
    rintro _ h1 ⟨P1, C1⟩
    obtain ⟨h2, s2, P2, C2⟩ := last h1 _ P1 (Ch.wf C1) C1
    simp only [wk, wt, wl, ↓reduceIte, Nat.reduceEqDiff, Nat.reduceAdd, wz, pt, nilV_ptr, s2]
    exact ⟨P2, C2⟩
  · have d2 := decide_eq_false f
    rw [if_neg f]
    simp only [wk, wt, wl, ↓reduceIte, Nat.reduceEqDiff, Nat.reduceAdd, wz, pt, nilV_ptr, l1, d1, d2, litm]
    refine (add_ok ⟨bv, Q⟩ hB (s := [27, 91, 109]) (by simp [isB]) (by simp) (by simp; omega)).use ?_
    rintro _ h1 ⟨P1, C1⟩
    obtain ⟨h2, s2, P2, C2⟩ := last h1 _ P1 (Ch.wf C1) C1
    simp only [wk, wt, wl, ↓reduceIte, Nat.reduceEqDiff, Nat.reduceAdd, wz, pt, nilV_ptr, s2]
    exact ⟨P2, C2⟩
end Go.Proofs.YthmpaddhmgnkbaaDoor.Am
end
section
/- What emit tells, plain: bytes that lead a terminal from a grid to another one; what each sequence does. -/
set_option linter.unusedSimpArgs false
set_option linter.unusedVariables false
set_option maxHeartbeats 4000000
namespace Go.Proofs.YthmpaddhmgnkbaaDoor.Am
open Go Go.RowKit Go.Proofs.Tryd
def cellO (n : GM) (O : OX) (i : Nat) : OX := match n.l[i]? with
  | none => O
  | some c => match c.tx with
    | [] => O
    | r :: m => ⟨(paintO (goesO O i n.C) c.ar).b ++ encL (r :: m), (paintO (goesO O i n.C) c.ar).attr, if ((i : Int) + widthZ r) % n.C = 0 then -1 else (i : Int) + widthZ r⟩
def bodyO (o n : GM) (O : OX) : OX := (toldL o.l n.l).foldl (cellO n) O
def tailL (n : GM) (O : OX) : List Int := (paintO O 0).b ++ placeL (n.y * n.C + n.x) n.C ++ [27, 91, 63, 50, 53, 104]
def blankG (R C : Int) : GM := ⟨sizeR R, sizeC C, blankL R C, 0, 0⟩
def hideL : List Int := [27, 91, 63, 50, 53, 108]
def wipesL : List Int := [27, 91, 50, 74]
/-- The bytes that lead from a grid to another one. -/
def emitL (o n : GM) : List Int :=
  if wholeB n = false ∨ o = n then []
  else if wholeB o = true ∧ o.R = n.R ∧ o.C = n.C then (if ({ o with y := n.y, x := n.x } : GM) = n then placeL (n.y * n.C + n.x) n.C else tailL n (bodyO o n ⟨hideL, 0, -1⟩))
  else tailL n (bodyO (blankG n.R n.C) n ⟨hideL ++ wipesL, 0, -1⟩)
/-- What a grid that is right is. -/
theorem whole_of {g : GM} (h : wholeB g = true) : (2 ≤ g.R ∧ g.R ≤ 500) ∧ (2 ≤ g.C ∧ g.C ≤ 1000) ∧ (g.l.length : Int) = g.R * g.C ∧ (0 ≤ g.y ∧ g.y < g.R) ∧ (0 ≤ g.x ∧ g.x < g.C) ∧ ∀ (i : Nat), i < g.l.length → cellQ g.C g.l i = true := by
  unfold wholeB at h
  simp only [Bool.and_eq_true, decide_eq_true_eq, List.all_eq_true, List.mem_range] at h
  obtain ⟨⟨⟨⟨⟨⟨⟨⟨⟨h1, h2⟩, h3⟩, h4⟩, h5⟩, h6⟩, h7⟩, h8⟩, h9⟩, h10⟩ := h
  exact ⟨⟨h1, h2⟩, ⟨h3, h4⟩, h5, ⟨h6, h7⟩, ⟨h8, h9⟩, h10⟩
theorem let_of {c : Cel} {r : Int} {m : List Int} (h : letQ c = true) (e : c.tx = r :: m) : showL r = [r] ∧ widthZ r ≠ 0 ∧ c.wd = decide (widthZ r = 2) ∧ m.length ≤ 2 ∧ ∀ y, y ∈ m → widthZ y = 0 := by
  unfold letQ at h
  rw [e] at h
  simp only [Bool.and_eq_true, decide_eq_true_eq, List.all_eq_true] at h
  obtain ⟨⟨⟨⟨h1, h2⟩, h3⟩, h4⟩, h5⟩ := h
  exact ⟨h1, h2, h3.symm, h4, h5⟩
/-- A cell of a grid that is right. -/
theorem cell_of {C : Int} {l : List Cel} {i : Nat} {c : Cel} (h : cellQ C l i = true) (hc : l[i]? = some c) : (c.ar = 0 ∨ c.ar = 1) ∧
    ((c.tx = [] ∧ c.wd = false ∧ (i : Int) % C ≠ 0 ∧ ∃ d, l[i - 1]? = some d ∧ d.wd = true ∧ d.ar = c.ar) ∨
     (c.tx ≠ [] ∧ letQ c = true ∧ (c.wd = true → (i : Int) % C < C - 1 ∧ ∃ d, l[i + 1]? = some d ∧ d.tx = []))) := by
  unfold cellQ at h
  rw [hc] at h
  simp only [Bool.and_eq_true, decide_eq_true_eq] at h
  obtain ⟨h1, h2⟩ := h
  refine ⟨h1, ?_⟩
  by_cases e : c.tx = []
  · left
    rw [if_pos e] at h2
    simp only [Bool.and_eq_true, Bool.not_eq_true', decide_eq_true_eq, Option.any_eq_true] at h2
    obtain ⟨h3, h4, d, h5, h6⟩ := h2
    exact ⟨e, h3, h4, d, h5, h6.1, h6.2⟩
  · right
    rw [if_neg e] at h2
    simp only [Bool.and_eq_true, Bool.or_eq_true, Bool.not_eq_true', decide_eq_true_eq, Option.any_eq_true] at h2
    refine ⟨e, h2.1, fun hw => ?_⟩
    rcases h2.2 with h3 | ⟨h3, d, h4, h5⟩
    · rw [hw] at h3; cases h3
    · exact ⟨h3, d, h4, h5⟩
theorem zero_show {y : Int} (h : widthZ y = 0) : showL y = [y] := by
  have hz : zeroB y = true := by
    unfold widthZ at h
    split at h
    · assumption
    · split at h <;> omega
  simp only [zeroB, decide_eq_true_eq] at hz
  have h1 : ctlB y = false := by simp [ctlB]; omega
  have h2 : validB y = true := by simp [validB]; omega
  unfold showL
  rw [h1, h2]
  simp only [Bool.false_eq_true, if_false]
  rw [if_neg (by simp; omega)]
/-- A sequence of two bytes ahead, some within, and a letter. -/
theorem seqAll {X : TX} {s : List Int} {b : Int} (h0 : X.st = 0) (hh : X.held = []) (hs : ∀ x, x ∈ s → 32 ≤ x ∧ x ≤ 63) (hl : s.length ≤ 32) (hb : 64 ≤ b ∧ b < 127) :
    writeX X ([27, 91] ++ (s ++ [b])) = { seqX { X with st := 2, last := none, seq := s } s b with st := 0 } := by
  obtain ⟨rows, cols, cells, row, col, attr, hid, last, st, seq, held⟩ := X
  simp only at h0 hh
  subst h0; subst hh
  rw [writeX_app]
  have e1 : writeX ⟨rows, cols, cells, row, col, attr, hid, last, 0, seq, []⟩ [27, 91] = ⟨rows, cols, cells, row, col, attr, hid, none, 2, [], []⟩ := rfl
  rw [e1, writeX_app, seqBytes s ⟨rows, cols, cells, row, col, attr, hid, none, 2, [], []⟩ rfl hs (by simpa using hl)]
  simp only [List.nil_append]
  simp only [writeX, List.foldl_cons, List.foldl_nil]
  unfold stepX
  simp only [show ¬ (2 : Nat) = 1 by omega, if_false, if_true]
  rw [if_neg (by omega), if_pos hb]
theorem hideX {X : TX} (h0 : X.st = 0) (hh : X.held = []) : ∃ s, writeX X hideL = { X with hid := true, last := none, seq := s } := by
  have := seqAll (X := X) (s := [63, 50, 53]) (b := 108) h0 hh (by simp) (by decide) (by omega)
  refine ⟨[63, 50, 53], this.trans ?_⟩
  obtain ⟨rows, cols, cells, row, col, attr, hid, last, st, seq, held⟩ := X
  simp only at h0 hh
  subst h0; subst hh
  rfl
theorem showX {X : TX} (h0 : X.st = 0) (hh : X.held = []) : ∃ s, writeX X [27, 91, 63, 50, 53, 104] = { X with hid := false, last := none, seq := s } := by
  have := seqAll (X := X) (s := [63, 50, 53]) (b := 104) h0 hh (by simp) (by decide) (by omega)
  refine ⟨[63, 50, 53], this.trans ?_⟩
  obtain ⟨rows, cols, cells, row, col, attr, hid, last, st, seq, held⟩ := X
  simp only at h0 hh
  subst h0; subst hh
  rfl
theorem wipesX {X : TX} (h0 : X.st = 0) (hh : X.held = []) : ∃ s, writeX X wipesL = { X with cells := wipeL X.cells 0 X.cells.length, last := none, seq := s } := by
  have := seqAll (X := X) (s := [50]) (b := 74) h0 hh (by simp) (by decide) (by omega)
  refine ⟨[50], this.trans ?_⟩
  obtain ⟨rows, cols, cells, row, col, attr, hid, last, st, seq, held⟩ := X
  simp only at h0 hh
  subst h0; subst hh
  rfl
theorem reverseX {X : TX} (h0 : X.st = 0) (hh : X.held = []) : ∃ s, writeX X [27, 91, 55, 109] = { X with attr := 1, last := none, seq := s } := by
  have := seqAll (X := X) (s := [55]) (b := 109) h0 hh (by simp) (by decide) (by omega)
  refine ⟨[55], this.trans ?_⟩
  obtain ⟨rows, cols, cells, row, col, attr, hid, last, st, seq, held⟩ := X
  simp only at h0 hh
  subst h0; subst hh
  rfl
theorem plainX {X : TX} (h0 : X.st = 0) (hh : X.held = []) : ∃ s, writeX X [27, 91, 109] = { X with attr := 0, last := none, seq := s } := by
  have := seqAll (X := X) (s := []) (b := 109) h0 hh (by simp) (by decide) (by omega)
  refine ⟨[], this.trans ?_⟩
  obtain ⟨rows, cols, cells, row, col, attr, hid, last, st, seq, held⟩ := X
  simp only at h0 hh
  subst h0; subst hh
  rfl
theorem fwdX {X : TX} {n : Int} (h0 : X.st = 0) (hh : X.held = []) (hn : 1 ≤ n ∧ n ≤ 9999) : ∃ s, writeX X (fwdL n) = { moveX X X.row (X.col + n) with last := none, seq := s } := by
  have l1 := digF_len 3 n
  have d1 := digF_bd 3 n (by omega) (by omega)
  have := seqAll (X := X) (s := digF 3 n) (b := 67) h0 hh (fun x hx => by have := d1 x hx; omega) (by omega) (by omega)
  refine ⟨digF 3 n, this.trans ?_⟩
  obtain ⟨rows, cols, cells, row, col, attr, hid, last, st, seq, held⟩ := X
  simp only at h0 hh
  subst h0; subst hh
  have hn1 : numsGo [] 0 (digF 3 n) = some [n] := by
    have := digF_numsGo 3 n [] [] (by omega) (by omega) (by omega)
    rw [List.append_nil] at this
    rw [this]; simp [numsGo]
  have hask : asksB (digF 3 n) = false := by
    cases hd : digF 3 n with
    | nil => rw [hd] at l1; simp at l1
    | cons y t =>
      have := d1 y (by rw [hd]; simp)
      simp [asksB]; omega
  have M1 := imax_spec n 1
  unfold seqX
  rw [hask]
  simp only [Bool.false_eq_true, if_false, hn1]
  simp [doX]
  rw [show imax n 1 = n by omega]
  simp [moveX]
theorem placeX {X : TX} {i : Int} (h0 : X.st = 0) (hh : X.held = []) (hi : 0 ≤ i) (hr : i / X.cols < X.rows) (hb : 2 ≤ X.rows ∧ X.rows ≤ 500) (hc : 2 ≤ X.cols ∧ X.cols ≤ 1000) :
    ∃ s, writeX X (placeL i X.cols) = { X with row := i / X.cols, col := i % X.cols, last := none, seq := s } := by
  have q0 := Int.ediv_nonneg hi (show 0 ≤ X.cols by omega)
  have m0 := Int.emod_nonneg i (show X.cols ≠ 0 by omega)
  have m1 := Int.emod_lt_of_pos i (show 0 < X.cols by omega)
  obtain ⟨s, e⟩ := gotoX (X := X) (a := i / X.cols + 1) (b := i % X.cols + 1) h0 hh (by omega) (by omega)
  refine ⟨s, e.trans ?_⟩
  have M1 := imax_spec (i / X.cols + 1 - 1) 0
  have M2 := imin_spec (imax (i / X.cols + 1 - 1) 0) (X.rows - 1)
  have M3 := imax_spec (i % X.cols + 1 - 1) 0
  have M4 := imin_spec (imax (i % X.cols + 1 - 1) 0) (X.cols - 1)
  have e1 : clampZ (i / X.cols + 1 - 1) X.rows = i / X.cols := by unfold clampZ; omega
  have e2 : clampZ (i % X.cols + 1 - 1) X.cols = i % X.cols := by unfold clampZ; omega
  simp only [moveX, e1, e2]
end Go.Proofs.YthmpaddhmgnkbaaDoor.Am
end
section
/- What emit tells, plain: a cell that is told stands there; no program in sight. -/
set_option linter.unusedSimpArgs false
set_option linter.unusedVariables false
set_option maxHeartbeats 4000000
namespace Go.Proofs.YthmpaddhmgnkbaaDoor.Am
open Go Go.RowKit Go.Proofs.Tryd
theorem setB_get {l : List Cel} {f t j : Nat} : (setB l f t)[j]? = (l[j]?).map fun c => if f ≤ j ∧ j < t then bl 0 else c := by
  unfold setB
  rw [List.getElem?_mapIdx]
theorem wipe_get {l : List Cel} {f t : Nat} (hft : f < t) (hT : t ≤ l.length) (h1 : ∀ c, l[f]? = some c → c.tx ≠ []) (j : Nat) :
    (wipeL l f t)[j]? = (l[j]?).map fun c => if (f ≤ j ∧ j < t) ∨ (j = t ∧ (l.getD (t - 1) (bl 0)).wd = true) then bl 0 else c := by
  unfold wipeL
  rw [if_pos hft]
  have e1 : (l.getD f (bl 0)).tx ≠ [] := by
    rw [List.getD_eq_getElem?_getD, List.getElem?_eq_getElem (show f < l.length by omega)]
    exact h1 _ (List.getElem?_eq_getElem (by omega))
  rw [if_neg e1, setB_get]
  congr 1
  funext c
  by_cases hw : (l.getD (t - 1) (bl 0)).wd = true
  · rw [if_pos hw]
    by_cases hj : f ≤ j ∧ j < t + 1
    · rw [if_pos hj, if_pos]
      rcases Nat.lt_or_ge j t with h | h
      · exact .inl ⟨hj.1, h⟩
      · exact .inr ⟨by omega, hw⟩
    · rw [if_neg hj, if_neg]
      rintro (h | h)
      · omega
      · omega
  · rw [if_neg hw]
    by_cases hj : f ≤ j ∧ j < t
    · rw [if_pos hj, if_pos (.inl hj)]
    · rw [if_neg hj, if_neg (by rintro (h | h); exact hj h; exact hw h.2)]
/-- Marks behind a rune. -/
theorem marksX : ∀ (m : List Int) (X : TX) (i : Nat) (c : Cel), X.last = some i → X.cells[i]? = some c → (∀ y, y ∈ m → widthZ y = 0) → c.tx.length + m.length ≤ 3 → m.foldl putX X = { X with cells := X.cells.set i { c with tx := c.tx ++ m } }
  | [], X, i, c, hl, hc, hm, hn => by
    have : X.cells.set i { c with tx := c.tx ++ [] } = X.cells := by
      rw [List.append_nil]; exact list_set_self hc
    rw [this]; rfl
  | y :: m, X, i, c, hl, hc, hm, hn => by
    have hy := hm y (by simp)
    simp only [List.length_cons] at hn
    have hi := (List.getElem?_eq_some_iff.1 hc).1
    have e : putX X y = { X with cells := X.cells.set i { c with tx := c.tx ++ [y] } } := by
      unfold putX
      rw [if_neg (by rw [zero_show hy]; simp), if_pos hy, hl]
      have hg : X.cells.getD i (bl 0) = c := by rw [List.getD_eq_getElem?_getD, hc]; rfl
      simp only [hg]
      rw [if_pos (by omega)]
    rw [List.foldl_cons, e, marksX m { X with cells := X.cells.set i { c with tx := c.tx ++ [y] } } i { c with tx := c.tx ++ [y] } hl (by simp [hi]) (fun z hz => hm z (by simp [hz])) (by simp; omega)]
    simp
/-- A rune and its marks where the cursor is. -/
theorem typedX {X : TX} {r : Int} {m : List Int} {i w : Nat} (hs : showL r = [r]) (hw : widthZ r = (w : Int)) (h12 : w = 1 ∨ w = 2) (hm : ∀ y, y ∈ m → widthZ y = 0) (hn : m.length ≤ 2) (hi : X.row * X.cols + X.col = (i : Int)) (hr : X.col + w ≤ X.cols) (hl : i + w ≤ X.cells.length) :
    ∃ L, (r :: m).foldl putX X = { X with cells := L, last := some i, col := clampZ (X.col + w) X.cols } ∧ ∀ j, L[j]? = if j = i then some ⟨r :: m, X.attr, decide (w = 2)⟩ else if j = i + 1 ∧ w = 2 then some ⟨[], X.attr, false⟩ else (wipeL X.cells i (i + w))[j]? := by
  have M := imin_spec X.col (X.cols - (w : Int))
  have hc : imin X.col (X.cols - (w : Int)) = X.col := by omega
  have hlen : ∀ f t, (wipeL X.cells f t).length = X.cells.length := fun f t => by
    unfold wipeL; split
    · simp [setB]
    · rfl
  have e : putX X r = { X with cells := (if (w : Int) = 2 then ((wipeL X.cells i (i + w)).set i ⟨[r], X.attr, decide ((w : Int) = 2)⟩).set (i + 1) ⟨[], X.attr, false⟩ else (wipeL X.cells i (i + w)).set i ⟨[r], X.attr, decide ((w : Int) = 2)⟩), last := some i, col := clampZ (X.col + w) X.cols } := by
    unfold putX
    rw [if_neg (by rw [hs]; simp), if_neg (by omega), hw]
    unfold putAt
    simp only [hc, hi, Int.toNat_natCast]
  obtain ⟨L0, hL0⟩ : ∃ L0, L0 = (if (w : Int) = 2 then ((wipeL X.cells i (i + w)).set i ⟨[r], X.attr, decide ((w : Int) = 2)⟩).set (i + 1) ⟨[], X.attr, false⟩ else (wipeL X.cells i (i + w)).set i ⟨[r], X.attr, decide ((w : Int) = 2)⟩) := ⟨_, rfl⟩
  rw [← hL0] at e
  have hwl := hlen i (i + w)
  have get : ∀ j, L0[j]? = if j = i then some ⟨[r], X.attr, decide (w = 2)⟩ else if j = i + 1 ∧ w = 2 then some ⟨[], X.attr, false⟩ else (wipeL X.cells i (i + w))[j]? := fun j => by
    rw [hL0]
    rcases h12 with rfl | rfl
    · rw [if_neg (by decide), List.getElem?_set]
      by_cases e1 : i = j
      · subst e1; rw [if_pos rfl, if_pos (by omega), if_pos rfl]; rfl
      · rw [if_neg e1, if_neg (fun e => e1 e.symm), if_neg (by omega)]
    · rw [if_pos (by decide), List.getElem?_set, List.getElem?_set, List.length_set]
      by_cases e1 : i + 1 = j
      · subst e1; rw [if_pos rfl, if_pos (by omega), if_neg (by omega), if_pos ⟨rfl, rfl⟩]
      · rw [if_neg e1]
        by_cases e2 : i = j
        · subst e2; rw [if_pos rfl, if_pos (by omega), if_pos rfl]; rfl
        · rw [if_neg e2, if_neg (fun e => e2 e.symm), if_neg (by omega)]
  have hL0l : L0.length = X.cells.length := by
    rw [hL0]; split
    · rw [List.length_set, List.length_set, hwl]
    · rw [List.length_set, hwl]
  have hgi : L0[i]? = some ⟨[r], X.attr, decide (w = 2)⟩ := by rw [get, if_pos rfl]
  rw [List.foldl_cons, e, marksX m { X with cells := L0, last := some i, col := clampZ (X.col + w) X.cols } i ⟨[r], X.attr, decide (w = 2)⟩ rfl hgi hm (by simp; omega)]
  refine ⟨_, rfl, fun j => ?_⟩
  rw [List.getElem?_set]
  by_cases e1 : i = j
  · subst e1; rw [if_pos rfl, if_pos (by show i < L0.length; omega), if_pos rfl]; rfl
  · rw [if_neg e1, get, if_neg (fun e => e1 e.symm)]
    by_cases e2 : j = i + 1 ∧ w = 2
    · rw [if_pos e2, if_neg (fun e => e1 e.symm)]
    · rw [if_neg e2, if_neg (fun e => e1 e.symm)]
/-- A terminal between what is told. -/
structure SX (X : TX) (n : GM) (O : OX) : Prop where
  st : X.st = 0
  held : X.held = []
  rows : X.rows = n.R
  cols : X.cols = n.C
  hid : X.hid = true
  attr : X.attr = O.attr
  good : Good X
/-- Where the cursor is known to be. -/
def AtX (X : TX) (n : GM) (O : OX) : Prop := O.pos = -1 ∨ (0 ≤ O.pos ∧ X.row = O.pos / n.C ∧ X.col = O.pos % n.C)
theorem div_lt {i R C : Int} (hC : 2 ≤ C) (hi : i < R * C) (h0 : 0 ≤ i) : i / C < R := Int.ediv_lt_of_lt_mul (by omega) hi
theorem goes_step {X : TX} {n : GM} {O : OX} {i : Int} (S : SX X n O) (P : AtX X n O) (hn : wholeB n = true) (hi : 0 ≤ i ∧ i < n.R * n.C) :
    ∃ s, (goesO O i n.C).b = O.b ++ s ∧ SX (writeX X s) n (goesO O i n.C) ∧ (writeX X s).cells = X.cells ∧ (writeX X s).row = i / n.C ∧ (writeX X s).col = i % n.C ∧ (goesO O i n.C).pos = i ∧ (goesO O i n.C).attr = O.attr ∧ ∀ x, x ∈ s → isB x := by
  obtain ⟨hr, hc, _⟩ := whole_of hn
  have hq := div_lt hc.1 hi.2 hi.1
  have q0 := Int.ediv_nonneg hi.1 (show 0 ≤ n.C by omega)
  have m0 := Int.emod_nonneg i (show n.C ≠ 0 by omega)
  have m1 := Int.emod_lt_of_pos i (show 0 < n.C by omega)
  have I := S.good.inv
  unfold goesO
  by_cases e : O.pos = i
  · rw [if_pos e]
    rcases P with P | ⟨P0, P1, P2⟩
    · omega
    · rw [e] at P1 P2
      exact ⟨[], by simp, S, rfl, P1, P2, e, rfl, fun x hx => by simp at hx⟩
  · rw [if_neg e]
    by_cases f : 0 ≤ O.pos ∧ O.pos < i ∧ i / n.C = O.pos / n.C
    · rw [if_pos f]
      obtain ⟨f0, f1, f2⟩ := f
      rcases P with P | ⟨P0, P1, P2⟩
      · omega
      have k1 := Int.emod_add_mul_ediv i n.C
      have k2 := Int.emod_add_mul_ediv O.pos n.C
      rw [← f2] at k2
      have p0 := Int.emod_nonneg O.pos (show n.C ≠ 0 by omega)
      have hd : i - O.pos = i % n.C - O.pos % n.C := by omega
      obtain ⟨s, es⟩ := fwdX (X := X) (n := i - O.pos) S.st S.held (by omega)
      have hb := fwdL_B (a := i - O.pos) (by omega)
      have G := good_write S.good hb
      rw [es] at G
      have M1 := imax_spec X.row 0
      have M2 := imin_spec (imax X.row 0) (X.rows - 1)
      have M3 := imax_spec (X.col + (i - O.pos)) 0
      have M4 := imin_spec (imax (X.col + (i - O.pos)) 0) (X.cols - 1)
      have hrow := I.row
      have hcols := S.cols
      have e1 : clampZ X.row X.rows = i / n.C := by unfold clampZ; rw [f2, ← P1]; omega
      have e2 : clampZ (X.col + (i - O.pos)) X.cols = i % n.C := by unfold clampZ; omega
      refine ⟨fwdL (i - O.pos), rfl, ?_, ?_, ?_, ?_, rfl, rfl, hb⟩
      · rw [es]; exact ⟨S.st, S.held, S.rows, S.cols, S.hid, S.attr, G⟩
      · rw [es]; rfl
      · rw [es]; exact e1
      · rw [es]; exact e2
    · rw [if_neg f]
      have hb := place_B (i := i) (C := n.C) hi.1 (by omega) (by omega)
      obtain ⟨s, es⟩ := placeX (X := X) (i := i) S.st S.held hi.1 (by rw [S.cols, S.rows]; exact hq) (by rw [S.rows]; exact hr) (by rw [S.cols]; exact hc)
      rw [S.cols] at es
      have G := good_write S.good hb
      rw [es] at G
      refine ⟨placeL i n.C, rfl, ?_, ?_, ?_, ?_, rfl, rfl, hb⟩
      · rw [es]; exact ⟨S.st, S.held, S.rows, rfl, S.hid, S.attr, G⟩
      · rw [es]
      · rw [es]
      · rw [es]
theorem paint_step {X : TX} {n : GM} {O : OX} {a : Int} (S : SX X n O) (ha : a = 0 ∨ a = 1) :
    ∃ s, (paintO O a).b = O.b ++ s ∧ SX (writeX X s) n (paintO O a) ∧ (writeX X s).cells = X.cells ∧ (writeX X s).row = X.row ∧ (writeX X s).col = X.col ∧ (paintO O a).attr = a ∧ (paintO O a).pos = O.pos ∧ ∀ x, x ∈ s → isB x := by
  unfold paintO
  by_cases e : a = O.attr
  · rw [if_pos e]
    exact ⟨[], by simp, S, rfl, rfl, rfl, e.symm, rfl, fun x hx => by simp at hx⟩
  · rw [if_neg e]
    by_cases f : a = 1
    · rw [if_pos f]
      have hb : ∀ x : Int, x ∈ ([27, 91, 55, 109] : List Int) → isB x := by intro x hx; simp at hx; rcases hx with rfl | rfl | rfl | rfl <;> simp [isB]
      obtain ⟨s, es⟩ := reverseX (X := X) S.st S.held
      have G := good_write S.good hb
      rw [es] at G
      refine ⟨_, rfl, ?_, ?_, ?_, ?_, rfl, rfl, hb⟩
      · rw [es]; exact ⟨S.st, S.held, S.rows, S.cols, S.hid, f.symm, G⟩
      · rw [es]
      · rw [es]
      · rw [es]
    · rw [if_neg f]
      have f0 : a = 0 := by omega
      have hb : ∀ x : Int, x ∈ ([27, 91, 109] : List Int) → isB x := by intro x hx; simp at hx; rcases hx with rfl | rfl | rfl <;> simp [isB]
      obtain ⟨s, es⟩ := plainX (X := X) S.st S.held
      have G := good_write S.good hb
      rw [es] at G
      refine ⟨_, rfl, ?_, ?_, ?_, ?_, rfl, rfl, hb⟩
      · rw [es]; exact ⟨S.st, S.held, S.rows, S.cols, S.hid, f0.symm, G⟩
      · rw [es]
      · rw [es]
      · rw [es]
end Go.Proofs.YthmpaddhmgnkbaaDoor.Am
end
section
/- What emit tells, plain: each cell that is told stands where it is to stand, the others are right already. -/
set_option linter.unusedSimpArgs false
set_option linter.unusedVariables false
set_option maxHeartbeats 4000000
namespace Go.Proofs.YthmpaddhmgnkbaaDoor.Am
open Go Go.RowKit Go.Proofs.Tryd
/-- Cells that stand already: those that are not told, those told before, and a right half of the one told last. -/
def Done (o n : List Cel) (k : Nat) (L : List Cel) : Prop := ∀ j, (toldB o n j = false ∨ j < k ∨ (j = k ∧ bareB n j = true)) → L[j]? = n[j]?
theorem bare_of {n : List Cel} {j : Nat} (h : bareB n j = true) : ∃ c, n[j]? = some c ∧ c.tx = [] := by
  unfold bareB at h
  cases e : n[j]? with
  | none => rw [e] at h; cases h
  | some c => rw [e] at h; exact ⟨c, rfl, by simpa using h⟩
theorem bare_mk {n : List Cel} {j : Nat} {c : Cel} (h : n[j]? = some c) (e : c.tx = []) : bareB n j = true := by unfold bareB; rw [h]; simpa using e
/-- What a grid's cells are, as bare ones and wide ones. -/
structure RowQ (C : Int) (n : List Cel) : Prop where
  emp : ∀ (j : Nat) (c : Cel), n[j]? = some c → c.tx = [] → c.wd = false ∧ ∃ (i : Nat) (d : Cel), j = i + 1 ∧ n[i]? = some d ∧ d.wd = true ∧ d.ar = c.ar ∧ (j : Int) % C ≠ 0
  full : ∀ (j : Nat) (c : Cel), n[j]? = some c → c.tx ≠ [] → letQ c = true ∧ (c.wd = true → (j : Int) % C < C - 1 ∧ ∃ d, n[j + 1]? = some d ∧ d.tx = [])
  ar : ∀ (j : Nat) (c : Cel), n[j]? = some c → c.ar = 0 ∨ c.ar = 1
theorem rowQ_of {g : GM} (h : wholeB g = true) : RowQ g.C g.l := by
  obtain ⟨_, hc, _, _, _, hq⟩ := whole_of h
  have one : ∀ (j : Nat) (c : Cel), g.l[j]? = some c → _ := fun j c e => cell_of (hq j (List.getElem?_eq_some_iff.1 e).1) e
  refine ⟨fun j c e et => ?_, fun j c e et => ?_, fun j c e => (one j c e).1⟩
  · rcases (one j c e).2 with ⟨_, h2, h3, d, h4, h5, h6⟩ | ⟨h1, _⟩
    · refine ⟨h2, j - 1, d, ?_, h4, h5, h6, h3⟩
      rcases j with _ | j
      · exact absurd (by simp) h3
      · rfl
    · exact absurd et h1
  · rcases (one j c e).2 with ⟨h1, _⟩ | ⟨_, h2, h3⟩
    · exact absurd h1 et
    · exact ⟨h2, h3⟩
theorem Done.zero {o n : List Cel} {C : Int} (Q : RowQ C n) (hl : o.length = n.length) : Done o n 0 o := fun j h => by
  rcases h with h | h | ⟨rfl, h⟩
  · unfold toldB chgB at h
    simp only [Bool.or_eq_false_iff, decide_eq_false_iff_not, Classical.not_not] at h
    exact h.1
  · omega
  · obtain ⟨c, e, et⟩ := bare_of h
    obtain ⟨_, i, d, e1, _⟩ := Q.emp 0 c e et
    omega
theorem Done.all {o n L : List Cel} (D : Done o n n.length L) (hl : L.length = n.length) : L = n := by
  refine List.ext_getElem? fun j => ?_
  rcases Nat.lt_or_ge j n.length with h | h
  · exact D j (.inr (.inl h))
  · rw [List.getElem?_eq_none (by omega), List.getElem?_eq_none h]
/-- A cell that is not told. -/
theorem Done.skip {o n L : List Cel} {C : Int} {k : Nat} (Q : RowQ C n) (D : Done o n k L) (ht : toldB o n k = false) : Done o n (k + 1) L := fun j h => by
  rcases h with h | h | ⟨rfl, h⟩
  · exact D j (.inl h)
  · by_cases e : j = k
    · subst e; exact D j (.inl ht)
    · exact D j (.inr (.inl (by omega)))
  · refine D (k + 1) (.inl ?_)
    obtain ⟨c, e, et⟩ := bare_of h
    have hlt := (List.getElem?_eq_some_iff.1 e).1
    cases hT : toldB o n (k + 1) with
    | false => rfl
    | true =>
      exfalso
      unfold toldB at hT ht
      simp only [Bool.or_eq_true, Bool.and_eq_true, Bool.or_eq_false_iff, decide_eq_true_eq] at hT ht
      rcases hT with hT | ⟨⟨_, _⟩, hT⟩
      · have := ht.2
        rw [hT, h] at this
        simp at this; omega
      · obtain ⟨c2, e2, et2⟩ := bare_of hT
        obtain ⟨_, i, d, e3, e4, e5, _⟩ := Q.emp _ c2 e2 et2
        have : i = k + 1 := by omega
        subst this
        rw [e] at e4; cases e4
        rw [(Q.emp _ c e et).1] at e5; cases e5
/-- A right half: it stands already. -/
theorem Done.half {o n L : List Cel} {C : Int} {k : Nat} (Q : RowQ C n) (D : Done o n k L) {c : Cel} (e : n[k]? = some c) (et : c.tx = []) : Done o n (k + 1) L := fun j h => by
  rcases h with h | h | ⟨rfl, h⟩
  · exact D j (.inl h)
  · by_cases ej : j = k
    · subst ej; exact D j (.inr (.inr ⟨rfl, bare_mk e et⟩))
    · exact D j (.inr (.inl (by omega)))
  · obtain ⟨c2, e2, et2⟩ := bare_of h
    obtain ⟨_, i, d, e3, e4, e5, _⟩ := Q.emp _ c2 e2 et2
    have : i = k := by omega
    subst this
    rw [e] at e4; cases e4
    rw [(Q.emp _ c e et).1] at e5; cases e5
/-- A cell that is typed. -/
theorem Done.typed {o n L L' : List Cel} {C : Int} {k w : Nat} {a : Int} (Q : RowQ C n) (D : Done o n k L) (G : GI C L) {c : Cel} {r : Int} {m : List Int} (e : n[k]? = some c) (et : c.tx = r :: m) (ea : c.ar = a) (ew : c.wd = decide (w = 2)) (h12 : w = 1 ∨ w = 2) (hl : k + w ≤ L.length)
    (hL : ∀ j, L'[j]? = if j = k then some ⟨r :: m, a, decide (w = 2)⟩ else if j = k + 1 ∧ w = 2 then some ⟨[], a, false⟩ else (wipeL L k (k + w))[j]?) : Done o n (k + 1) L' := by
  have hw := wipe_get (l := L) (f := k) (t := k + w) (by omega) hl fun d hd hdt => by
    obtain ⟨i, d', e1, e2, e3, _⟩ := G.emp k d hd hdt
    rw [D i (.inr (.inl (by omega)))] at e2
    have hq := (Q.full i d' e2 (fun h => by rw [(Q.emp i d' e2 h).1] at e3; cases e3)).2 e3
    obtain ⟨_, x, hx, hx2⟩ := hq
    rw [← e1, e] at hx; cases hx
    rw [et] at hx2; cases hx2
  have hk : L'[k]? = n[k]? := by
    rw [hL, if_pos rfl, e, ← et, ← ea, ← ew]
  have hk1 : w = 2 → L'[k + 1]? = n[k + 1]? := fun h2 => by
    have hwd : c.wd = true := by rw [ew]; simpa using h2
    obtain ⟨_, d, hd, hdt⟩ := (Q.full k c e (by rw [et]; simp)).2 hwd
    obtain ⟨q1, i, d', q2, q3, q4, q5, _⟩ := Q.emp _ d hd hdt
    have : i = k := by omega
    subst this
    rw [e] at q3; cases q3
    rw [hL, if_neg (by omega), if_pos ⟨rfl, h2⟩, hd]
    obtain ⟨dt, da, dw⟩ := d
    simp only at hdt q1 q5
    rw [hdt, q1, ← q5, ea]
  intro j h
  by_cases j1 : j = k
  · subst j1; exact hk
  by_cases j2 : j = k + 1 ∧ w = 2
  · rw [j2.1]; exact hk1 j2.2
  rw [hL, if_neg j1, if_neg j2, hw]
  have back : toldB o n j = false ∨ j < k := by
    rcases h with h | h | ⟨rfl, h⟩
    · exact .inl h
    · exact .inr (by omega)
    · exfalso
      obtain ⟨c2, e2, et2⟩ := bare_of h
      obtain ⟨_, i, d, e3, e4, e5, _⟩ := Q.emp _ c2 e2 et2
      have : i = k := by omega
      subst this
      rw [e] at e4; cases e4
      rw [ew] at e5
      exact j2 ⟨rfl, by simpa using e5⟩
  have hj := D j (by rcases back with h | h; exact .inl h; exact .inr (.inl h))
  have no : ¬ ((k ≤ j ∧ j < k + w) ∨ (j = k + w ∧ (L.getD (k + w - 1) (bl 0)).wd = true)) := by
    rintro (h1 | ⟨h1, h2⟩)
    · omega
    · rw [h1] at hj
      have hlt : k + w - 1 < L.length := by omega
      rw [List.getD_eq_getElem?_getD, List.getElem?_eq_getElem hlt] at h2
      obtain ⟨x, hx, hxt⟩ := G.wid (k + w - 1) _ (List.getElem?_eq_getElem hlt) h2
      rw [show k + w - 1 + 1 = k + w by omega, hj] at hx
      obtain ⟨_, i, d, e3, e4, e5, _⟩ := Q.emp _ x hx hxt
      rcases h12 with rfl | rfl
      · have : i = k := by omega
        subst this
        rw [e] at e4; cases e4
        rw [ew] at e5; cases e5
      · have : i = k + 1 := by omega
        subst this
        have hwd : c.wd = true := by rw [ew]; rfl
        obtain ⟨_, y, hy, hyt⟩ := (Q.full k c e (by rw [et]; simp)).2 hwd
        rw [e4] at hy; cases hy
        rw [(Q.emp _ _ e4 hyt).1] at e5; cases e5
  rw [← hj]
  cases L[j]? with
  | none => rfl
  | some x => simp only [Option.map_some]; rw [if_neg no]
/-- A cell that is told. -/
theorem cell_step {X : TX} {o n : GM} {O : OX} {k : Nat} (S : SX X n O) (P : AtX X n O) (hn : wholeB n = true) (D : Done o.l n.l k X.cells) (hk : k < n.l.length) :
    ∃ s, (cellO n O k).b = O.b ++ s ∧ SX (writeX X s) n (cellO n O k) ∧ AtX (writeX X s) n (cellO n O k) ∧ Done o.l n.l (k + 1) (writeX X s).cells ∧ ∀ x, x ∈ s → isB x := by
  obtain ⟨hr, hc, hN, _, _, _⟩ := whole_of hn
  have Q := rowQ_of hn
  have I := S.good.inv
  have hXN := I.n
  rw [S.rows, S.cols] at hXN
  have GX : GI n.C X.cells := by have := I.gi; rwa [S.cols] at this
  obtain ⟨c, e⟩ : ∃ c, n.l[k]? = some c := ⟨_, List.getElem?_eq_getElem hk⟩
  unfold cellO
  rw [e]
  simp only
  cases et : c.tx with
  | nil =>
    simp only
    exact ⟨[], by simp, S, P, D.half Q e et, fun x hx => by simp at hx⟩
  | cons r m =>
    simp only
    have hne : c.tx ≠ [] := by rw [et]; simp
    obtain ⟨q1, q2⟩ := Q.full k c e hne
    obtain ⟨l1, l2, l3, l4, l5⟩ := let_of q1 et
    have wb := widthZ_le r
    obtain ⟨w, hw⟩ : ∃ w : Nat, widthZ r = (w : Int) := ⟨(widthZ r).toNat, by omega⟩
    have h12 : w = 1 ∨ w = 2 := by omega
    have m0 := Int.emod_nonneg (k : Int) (show n.C ≠ 0 by omega)
    have m1 := Int.emod_lt_of_pos (k : Int) (show 0 < n.C by omega)
    have dm := Int.emod_add_mul_ediv (k : Int) n.C
    have ew : c.wd = decide (w = 2) := by rw [l3, hw]; congr 1; exact propext (by omega)
    have hcol : (k : Int) % n.C + w ≤ n.C := by
      rcases h12 with rfl | rfl
      · omega
      · have := (q2 (by rw [ew]; rfl)).1
        omega
    obtain ⟨s1, b1, S1, c1, r1, p1, a1, t1, B1⟩ := goes_step (i := (k : Int)) S P hn (by omega)
    obtain ⟨s2, b2, S2, c2, r2, p2, a2, t2, B2⟩ := paint_step (a := c.ar) S1 (Q.ar k c e)
    generalize hX2 : writeX (writeX X s1) s2 = X2 at *
    have hall : ∀ y, y ∈ r :: m → showL y = [y] := fun y hy => by
      rcases List.mem_cons.1 hy with rfl | hy
      · exact l1
      · exact zero_show (l5 y hy)
    have W3 := writeX_runes (X := X2) (l := r :: m) S2.st S2.held hall
    have hi : X2.row * X2.cols + X2.col = (k : Int) := by
      rw [r2, r1, p2, p1, S2.cols, Int.mul_comm]; omega
    have hlen : k + w ≤ X2.cells.length := by
      rw [c2, c1]
      have hq := div_lt hc.1 (show (k : Int) < n.R * n.C by omega) (by omega)
      have h1 : n.C * ((k : Int) / n.C) + n.C ≤ n.R * n.C := by
        have : n.C * ((k : Int) / n.C + 1) ≤ n.C * n.R := Int.mul_le_mul_of_nonneg_left (by omega) (by omega)
        rw [Int.mul_add, Int.mul_one, Int.mul_comm n.C n.R] at this
        exact this
      omega
    obtain ⟨L, eL, gL⟩ := typedX (X := X2) (r := r) (m := m) (i := k) (w := w) l1 hw h12 l5 l4 hi (by rw [p2, p1, S2.cols]; exact hcol) hlen
    rw [eL] at W3
    have B3 : ∀ x, x ∈ encL (r :: m) → isB x := encL_isB
    have G3 := good_write S2.good B3
    rw [W3] at G3
    rw [c2, c1] at gL hlen
    have ha : c.ar = X2.attr := by rw [S2.attr, a2]
    have D3 : Done o.l n.l (k + 1) L := D.typed Q GX e et ha ew h12 hlen gL
    have hS : writeX X (s1 ++ s2 ++ encL (r :: m)) = writeX X2 (encL (r :: m)) := by rw [writeX_app, writeX_app, hX2]
    refine ⟨s1 ++ s2 ++ encL (r :: m), by simp only [b2, b1, List.append_assoc], ?_, ?_, ?_, ?_⟩
    · rw [hS, W3]
      exact ⟨S2.st, rfl, S2.rows, S2.cols, S2.hid, S2.attr, G3⟩
    · rw [hS, W3]
      unfold AtX
      simp only
      by_cases z : ((k : Int) + widthZ r) % n.C = 0
      · rw [if_pos z]; exact .inl rfl
      · rw [if_neg z]
        right
        rw [hw] at z ⊢
        have hlt : (k : Int) % n.C + w < n.C := by
          rcases Int.lt_or_eq_of_le hcol with h | h
          · exact h
          · exfalso; apply z
            have : (k : Int) + w = n.C * ((k : Int) / n.C + 1) := by rw [Int.mul_add, Int.mul_one]; omega
            rw [this, Int.mul_emod_right]
        have k2 : ((k : Int) + w) = (k : Int) % n.C + w + n.C * ((k : Int) / n.C) := by omega
        have k3 : ((k : Int) + w) / n.C = (k : Int) / n.C := by
          rw [k2, Int.add_mul_ediv_left _ _ (by omega), Int.ediv_eq_zero_of_lt (by omega) hlt]; omega
        have k4 : ((k : Int) + w) % n.C = (k : Int) % n.C + w := by
          rw [k2, Int.add_mul_emod_self_left, Int.emod_eq_of_lt (by omega) hlt]
        refine ⟨by omega, ?_, ?_⟩
        · rw [k3, r2, r1]
        · rw [k4, p2, p1, S2.cols]; exact clampZ_in (by omega) hlt
    · rw [hS, W3]; exact D3
    · intro x hx
      rw [List.mem_append, List.mem_append] at hx
      rcases hx with (hx | hx) | hx
      · exact B1 x hx
      · exact B2 x hx
      · exact B3 x hx
/-- All the cells that are told. -/
theorem body_steps {X : TX} {o n : GM} {O : OX} (S : SX X n O) (P : AtX X n O) (hn : wholeB n = true) (D : Done o.l n.l 0 X.cells) : ∀ k : Nat, k ≤ n.l.length →
    ∃ s, (((List.range k).filter (toldB o.l n.l)).foldl (cellO n) O).b = O.b ++ s ∧ SX (writeX X s) n (((List.range k).filter (toldB o.l n.l)).foldl (cellO n) O) ∧ AtX (writeX X s) n (((List.range k).filter (toldB o.l n.l)).foldl (cellO n) O) ∧ Done o.l n.l k (writeX X s).cells ∧ ∀ x, x ∈ s → isB x
  | 0, _ => ⟨[], by simp, S, P, D, fun x hx => by simp at hx⟩
  | k + 1, hk => by
    obtain ⟨s, b, S1, P1, D1, B1⟩ := body_steps S P hn D k (by omega)
    rw [List.range_succ, List.filter_append, List.foldl_append]
    cases ht : toldB o.l n.l k with
    | false =>
      rw [List.filter_cons_of_neg (by rw [ht]; simp)]
      exact ⟨s, b, S1, P1, D1.skip (rowQ_of hn) ht, B1⟩
    | true =>
      rw [List.filter_cons_of_pos ht]
      obtain ⟨s2, b2, S2, P2, D2, B2⟩ := cell_step S1 P1 hn D1 (by omega)
      refine ⟨s ++ s2, ?_, ?_, ?_, ?_, ?_⟩
      · simp only [List.filter_nil, List.foldl_cons, List.foldl_nil]
        rw [b2, b, List.append_assoc]
      · rw [writeX_app]; exact S2
      · rw [writeX_app]; exact P2
      · rw [writeX_app]; exact D2
      · intro x hx
        rcases List.mem_append.1 hx with hx | hx
        · exact B1 x hx
        · exact B2 x hx
theorem body_step {X : TX} {o n : GM} {O : OX} (S : SX X n O) (P : AtX X n O) (hn : wholeB n = true) (D : Done o.l n.l 0 X.cells) :
    ∃ s, (bodyO o n O).b = O.b ++ s ∧ SX (writeX X s) n (bodyO o n O) ∧ (writeX X s).cells = n.l ∧ ∀ x, x ∈ s → isB x := by
  obtain ⟨s, b, S1, _, D1, B1⟩ := body_steps S P hn D n.l.length (Nat.le_refl _)
  refine ⟨s, b, S1, D1.all ?_, B1⟩
  have h1 := S1.good.inv.n
  rw [S1.rows, S1.cols] at h1
  have := (whole_of hn).2.2.1
  omega
end Go.Proofs.YthmpaddhmgnkbaaDoor.Am
end
section
/- What emit tells, plain: a terminal that is told it shows the new grid; when it tells nothing. -/
set_option linter.unusedSimpArgs false
set_option linter.unusedVariables false
set_option maxHeartbeats 4000000
namespace Go.Proofs.YthmpaddhmgnkbaaDoor.Am
open Go Go.RowKit Go.Proofs.Tryd
/-- A terminal that shows a grid, with nothing under way. -/
structure ShX (X : TX) (n : GM) : Prop where
  cells : X.cells = n.l
  row : X.row = n.y
  col : X.col = n.x
  rows : X.rows = n.R
  cols : X.cols = n.C
  attr : X.attr = 0
  hid : X.hid = false
  st : X.st = 0
  held : X.held = []
  good : Good X
theorem cur_div {n : GM} (hn : wholeB n = true) : (n.y * n.C + n.x) / n.C = n.y ∧ (n.y * n.C + n.x) % n.C = n.x ∧ 0 ≤ n.y * n.C + n.x := by
  obtain ⟨hr, hc, _, hy, hx, _⟩ := whole_of hn
  have e : n.y * n.C + n.x = n.x + n.C * n.y := by rw [Int.mul_comm, Int.add_comm]
  have h0 : 0 ≤ n.y * n.C := Int.mul_nonneg hy.1 (by omega)
  refine ⟨?_, ?_, by omega⟩
  · rw [e, Int.add_mul_ediv_left _ _ (by omega), Int.ediv_eq_zero_of_lt hx.1 hx.2]; omega
  · rw [e, Int.add_mul_emod_self_left, Int.emod_eq_of_lt hx.1 hx.2]
theorem cur_place {X : TX} {n : GM} (h0 : X.st = 0) (hh : X.held = []) (hR : X.rows = n.R) (hC : X.cols = n.C) (hn : wholeB n = true) : ∃ s, writeX X (placeL (n.y * n.C + n.x) n.C) = { X with row := n.y, col := n.x, last := none, seq := s } := by
  obtain ⟨hr, hc, _, hy, hx, _⟩ := whole_of hn
  obtain ⟨c1, c2, c3⟩ := cur_div hn
  obtain ⟨rows, cols, cells, row, col, attr, hid, last, st, seq, held⟩ := X
  simp only at h0 hh hR hC
  subst h0; subst hh; subst hR; subst hC
  obtain ⟨s, es⟩ := placeX (X := ⟨n.R, n.C, cells, row, col, attr, hid, last, 0, seq, []⟩) (i := n.y * n.C + n.x) rfl rfl c3 (by show (n.y * n.C + n.x) / n.C < n.R; rw [c1]; exact hy.2) hr hc
  refine ⟨s, es.trans ?_⟩
  simp only [c1, c2]
theorem place_cur_B {n : GM} (hn : wholeB n = true) : ∀ x, x ∈ placeL (n.y * n.C + n.x) n.C → isB x := by
  obtain ⟨hr, hc, _, hy, hx, _⟩ := whole_of hn
  obtain ⟨c1, c2, c3⟩ := cur_div hn
  exact place_B c3 (by omega) (by rw [c1]; omega)
theorem tail_step {X : TX} {n : GM} {O : OX} (S : SX X n O) (hn : wholeB n = true) (hc : X.cells = n.l) : ∃ s, tailL n O = O.b ++ s ∧ ShX (writeX X s) n ∧ ∀ x, x ∈ s → isB x := by
  obtain ⟨s1, b1, S1, c1, r1, p1, a1, t1, B1⟩ := paint_step (a := 0) S (.inl rfl)
  obtain ⟨q, e2⟩ := cur_place (X := writeX X s1) S1.st S1.held S1.rows S1.cols hn
  have B2 := place_cur_B hn
  have G2 := good_write S1.good B2
  rw [e2] at G2
  obtain ⟨q3, e3⟩ := showX (X := { writeX X s1 with row := n.y, col := n.x, last := none, seq := q }) S1.st S1.held
  have B3 : ∀ x : Int, x ∈ ([27, 91, 63, 50, 53, 104] : List Int) → isB x := by intro x hx; simp at hx; rcases hx with rfl | rfl | rfl | rfl | rfl | rfl <;> simp [isB]
  have G3 := good_write G2 B3
  rw [e3] at G3
  refine ⟨s1 ++ placeL (n.y * n.C + n.x) n.C ++ [27, 91, 63, 50, 53, 104], ?_, ?_, ?_⟩
  · unfold tailL; rw [b1]; simp
  · rw [writeX_app, writeX_app, e2, e3]
    exact ⟨c1.trans hc, rfl, rfl, S1.rows, S1.cols, S1.attr.trans a1, rfl, S1.st, S1.held, G3⟩
  · intro x hx
    rw [List.mem_append, List.mem_append] at hx
    rcases hx with (hx | hx) | hx
    · exact B1 x hx
    · exact B2 x hx
    · exact B3 x hx
theorem hide_B : ∀ x : Int, x ∈ hideL → isB x := by intro x hx; simp [hideL] at hx; rcases hx with rfl | rfl | rfl | rfl | rfl | rfl <;> simp [isB]
theorem wipes_B : ∀ x : Int, x ∈ wipesL → isB x := by intro x hx; simp [wipesL] at hx; rcases hx with rfl | rfl | rfl | rfl <;> simp [isB]
theorem size_in {r c : Int} (hr : 2 ≤ r ∧ r ≤ 500) (hc : 2 ≤ c ∧ c ≤ 1000) : sizeR r = r ∧ sizeC c = c := by
  have M1 := imax_spec r 2
  have M2 := imin_spec (imax r 2) 500
  have M3 := imax_spec c 2
  have M4 := imin_spec (imax c 2) 1000
  unfold sizeR sizeC
  omega
/-- Is a grid one that a terminal may be led from? -/
def fitB (o n : GM) : Prop := wholeB o = true ∧ o.R = n.R ∧ o.C = n.C
theorem wipe_every {X : TX} {n : GM} (G : Good X) (hR : X.rows = n.R) (hC : X.cols = n.C) : wipeL X.cells 0 X.cells.length = blankL n.R n.C := by
  have I := G.inv
  have hr := I.r; have hc := I.c; have hN := I.n
  have pos : (0 : Int) < X.rows * X.cols := Int.mul_pos (by omega) (by omega)
  have z := wipe_get (l := X.cells) (f := 0) (t := X.cells.length) (by omega) (Nat.le_refl _) fun c e et => by
    obtain ⟨i, d, e1, _⟩ := I.emp 0 c e et
    omega
  have es := (size_in hr hc)
  rw [hR, hC] at es hN
  refine List.ext_getElem? fun j => ?_
  rw [z]
  unfold blankL
  rw [es.1, es.2, List.getElem?_replicate]
  by_cases hj : j < X.cells.length
  · rw [List.getElem?_eq_getElem hj, Option.map_some, if_pos (.inl ⟨by omega, hj⟩), if_pos (by omega)]
  · rw [List.getElem?_eq_none (by omega), Option.map_none, if_neg (by omega)]
/-- A terminal that shows a grid, or any one of the right size, is led to the new one. -/
theorem shows_plain {X : TX} {o n : GM} (hn : wholeB n = true) (G : Good X) (h0 : X.st = 0) (hh : X.held = []) (ha : X.attr = 0) (hd : X.hid = false) (hR : X.rows = n.R) (hC : X.cols = n.C) (hf : fitB o n → X.cells = o.l ∧ X.row = o.y ∧ X.col = o.x) : ShX (writeX X (emitL o n)) n ∧ ∀ x, x ∈ emitL o n → isB x := by
  obtain ⟨hr, hc, hN, hy, hx, _⟩ := whole_of hn
  have Q := rowQ_of hn
  obtain ⟨q1, e1⟩ := hideX (X := X) h0 hh
  have G1 := good_write G hide_B
  rw [e1] at G1
  have done : ∀ (X1 : TX) (o' : GM) (b : List Int), X1 = writeX X b → (∀ x, x ∈ b → isB x) → SX X1 n ⟨b, 0, -1⟩ → X1.cells = o'.l → o'.l.length = n.l.length → ShX (writeX X (tailL n (bodyO o' n ⟨b, 0, -1⟩))) n ∧ ∀ x, x ∈ tailL n (bodyO o' n ⟨b, 0, -1⟩) → isB x := fun X1 o' b eX Bb S hcell hlen => by
    obtain ⟨s, eb, S2, c2, B2⟩ := body_step (o := o') S (.inl rfl) hn (by rw [hcell]; exact Done.zero Q hlen)
    obtain ⟨s3, e3, T, B3⟩ := tail_step S2 hn c2
    rw [e3, eb]
    refine ⟨by rw [writeX_app, writeX_app, ← eX]; exact T, fun x hx => ?_⟩
    rw [List.mem_append, List.mem_append] at hx
    rcases hx with (hx | hx) | hx
    · exact Bb x hx
    · exact B2 x hx
    · exact B3 x hx
  unfold emitL
  by_cases h1 : wholeB n = false ∨ o = n
  · rw [if_pos h1]
    have ho : o = n := h1.resolve_left (by rw [hn]; simp)
    obtain ⟨f1, f2, f3⟩ := hf ⟨by rw [ho]; exact hn, by rw [ho], by rw [ho]⟩
    rw [ho] at f1 f2 f3
    exact ⟨⟨f1, f2, f3, hR, hC, ha, hd, h0, hh, G⟩, fun x hx => by simp at hx⟩
  rw [if_neg h1]
  by_cases h2 : wholeB o = true ∧ o.R = n.R ∧ o.C = n.C
  · rw [if_pos h2]
    obtain ⟨f1, f2, f3⟩ := hf h2
    by_cases h3 : ({ o with y := n.y, x := n.x } : GM) = n
    · rw [if_pos h3]
      have el : o.l = n.l := by have := congrArg GM.l h3; exact this
      obtain ⟨s, es⟩ := cur_place (X := X) h0 hh hR hC hn
      have G2 := good_write G (place_cur_B hn)
      rw [es] at G2 ⊢
      exact ⟨⟨f1.trans el, rfl, rfl, hR, hC, ha, hd, h0, hh, G2⟩, place_cur_B hn⟩
    · rw [if_neg h3]
      refine done _ o hideL e1.symm hide_B ⟨h0, hh, hR, hC, rfl, ha, G1⟩ f1 ?_
      have := (whole_of h2.1).2.2.1
      rw [h2.2.1, h2.2.2] at this
      omega
  · rw [if_neg h2]
    obtain ⟨q2, e2⟩ := wipesX (X := { X with hid := true, last := none, seq := q1 }) h0 hh
    have G2 := good_write G1 wipes_B
    rw [e2] at G2
    have eall : { X with cells := wipeL X.cells 0 X.cells.length, hid := true, last := none, seq := q2 } = writeX X (hideL ++ wipesL) := by
      rw [writeX_app, e1, e2]
    refine done _ (blankG n.R n.C) (hideL ++ wipesL) eall ?_ ⟨h0, hh, hR, hC, rfl, ha, G2⟩ (wipe_every G hR hC) ?_
    · intro x hx
      rcases List.mem_append.1 hx with hx | hx
      · exact hide_B x hx
      · exact wipes_B x hx
    · show (blankL n.R n.C).length = _
      have es := size_in hr hc
      unfold blankL
      rw [es.1, es.2, List.length_replicate]
      omega
/-- Nothing is told just where nothing is to be told. -/
theorem emit_nil {o n : GM} : emitL o n = [] ↔ (wholeB n = false ∨ o = n) := by
  unfold emitL
  by_cases h1 : wholeB n = false ∨ o = n
  · rw [if_pos h1]; simp [h1]
  rw [if_neg h1]
  have tl : ∀ O, tailL n O ≠ [] := fun O h => by unfold tailL at h; simp at h
  have pl : placeL (n.y * n.C + n.x) n.C ≠ [] := fun h => by
    have := place_len (i := n.y * n.C + n.x) (C := n.C)
    rw [h] at this; simp at this
  refine ⟨fun h => ?_, fun h => absurd h h1⟩
  exfalso
  split at h
  · split at h
    · exact pl h
    · exact tl _ h
  · exact tl _ h
end Go.Proofs.YthmpaddhmgnkbaaDoor.Am
end
section
/- What emit tells, plain: whole sequences, and whole runes that are shown as themselves. -/
set_option linter.unusedSimpArgs false
set_option linter.unusedVariables false
set_option maxHeartbeats 4000000
namespace Go.Proofs.YthmpaddhmgnkbaaDoor.Am
open Go Go.RowKit Go.Proofs.Tryd
inductive Tok where
  | sq (s : List Int)
  | ru (r : Int)
def tokB : Tok → List Int
  | .sq s => s
  | .ru r => encR r
def toksB (l : List Tok) : List Int := l.flatMap tokB
def DigQ (d : List Int) : Prop := ∀ x, x ∈ d → 48 ≤ x ∧ x ≤ 57
/-- Sequences that may be. -/
def SqQ (s : List Int) : Prop := (∃ c, (c = 104 ∨ c = 108) ∧ s = [27, 91, 63, 50, 53, c]) ∨ (∃ d c, DigQ d ∧ (c = 67 ∨ c = 74 ∨ c = 109) ∧ s = 27 :: 91 :: (d ++ [c])) ∨ (∃ d e, DigQ d ∧ DigQ e ∧ s = 27 :: 91 :: (d ++ 59 :: (e ++ [72])))
/-- Tokens that may be, one behind the other; was a rune typed just before? -/
def GT : Bool → List Tok → Prop
  | _, [] => True
  | _, .sq s :: l => SqQ s ∧ GT false l
  | t, .ru r :: l => showL r = [r] ∧ (widthZ r ≠ 0 ∨ t = true) ∧ GT true l
theorem GT.any : ∀ {l : List Tok} {t : Bool}, GT false l → GT t l
  | [], _, _ => trivial
  | .sq s :: l, t, h => h
  | .ru r :: l, t, h => ⟨h.1, h.2.1.imp id (fun e => by cases e), h.2.2⟩
theorem GT.app : ∀ {a b : List Tok} {t : Bool}, GT t a → GT false b → GT t (a ++ b)
  | [], b, t, _, h => h.any
  | .sq s :: a, b, t, g, h => ⟨g.1, GT.app g.2 h⟩
  | .ru r :: a, b, t, g, h => ⟨g.1, g.2.1, GT.app g.2.2 h⟩
/-- Bytes that are such tokens. -/
def TokL (b : List Int) : Prop := ∃ l, b = toksB l ∧ GT false l
theorem TokL.nil : TokL [] := ⟨[], rfl, trivial⟩
theorem TokL.app {a b : List Int} : TokL a → TokL b → TokL (a ++ b) := fun ⟨l, e, g⟩ ⟨m, f, k⟩ => ⟨l ++ m, by rw [e, f]; simp [toksB], g.app k⟩
theorem TokL.one {s : List Int} (h : SqQ s) : TokL s := ⟨[.sq s], by simp [toksB, tokB], h, trivial⟩
theorem dig_Q {n : Int} (h : 0 ≤ n ∧ n < 10000) : DigQ (digF 3 n) := fun x hx => by
  have := digF_bd 3 n h.1 (by omega) x hx
  omega
theorem fwd_Q {n : Int} (h : 0 ≤ n ∧ n < 10000) : SqQ (fwdL n) := .inr (.inl ⟨_, 67, dig_Q h, .inl rfl, rfl⟩)
theorem place_Q {i C : Int} (h0 : 0 ≤ i) (hC : 1 ≤ C ∧ C ≤ 1000) (hi : i / C < 9999) : SqQ (placeL i C) := by
  have q0 := Int.ediv_nonneg h0 (show 0 ≤ C by omega)
  have m0 := Int.emod_nonneg i (show C ≠ 0 by omega)
  have m1 := Int.emod_lt_of_pos i (show 0 < C by omega)
  refine .inr (.inr ⟨digF 3 (i / C + 1), digF 3 (i % C + 1), dig_Q (by omega), dig_Q (by omega), ?_⟩)
  unfold placeL atL
  simp
theorem marks_T : ∀ {m : List Int}, (∀ y, y ∈ m → widthZ y = 0) → GT true (m.map Tok.ru)
  | [], _ => trivial
  | y :: m, h => ⟨zero_show (h y (by simp)), .inr rfl, marks_T fun z hz => h z (by simp [hz])⟩
theorem text_T {r : Int} {m : List Int} (h1 : showL r = [r]) (h2 : widthZ r ≠ 0) (h3 : ∀ y, y ∈ m → widthZ y = 0) : TokL (encL (r :: m)) :=
  ⟨(r :: m).map Tok.ru, by simp [toksB, tokB, encL, List.flatMap_map], h1, .inl h2, marks_T h3⟩
theorem goes_T {O : OX} {i C : Int} (h : TokL O.b) (h0 : 0 ≤ i) (hC : 1 ≤ C ∧ C ≤ 1000) (hi : i / C < 9999) : TokL (goesO O i C).b := by
  unfold goesO
  split
  · exact h
  · simp only
    refine h.app ?_
    split
    · rename_i f
      obtain ⟨f0, f1, f2⟩ := f
      have k1 := Int.emod_add_mul_ediv i C
      have k2 := Int.emod_add_mul_ediv O.pos C
      rw [← f2] at k2
      have m1 := Int.emod_lt_of_pos i (show 0 < C by omega)
      have m2 := Int.emod_nonneg O.pos (show C ≠ 0 by omega)
      exact .one (fwd_Q (by omega))
    · exact .one (place_Q h0 hC hi)
theorem paint_T {O : OX} {a : Int} (h : TokL O.b) : TokL (paintO O a).b := by
  unfold paintO
  split
  · exact h
  · simp only
    refine h.app ?_
    split
    · exact .one (.inr (.inl ⟨[55], 109, fun x hx => by simp at hx; omega, .inr (.inr rfl), rfl⟩))
    · exact .one (.inr (.inl ⟨[], 109, fun x hx => by simp at hx, .inr (.inr rfl), rfl⟩))
theorem cell_T {n : GM} {O : OX} {i : Nat} (hn : wholeB n = true) (hi : i < n.l.length) (h : TokL O.b) : TokL (cellO n O i).b := by
  obtain ⟨hr, hc, hN, _, _, _⟩ := whole_of hn
  have Q := rowQ_of hn
  obtain ⟨c, e⟩ : ∃ c, n.l[i]? = some c := ⟨_, List.getElem?_eq_getElem hi⟩
  unfold cellO
  rw [e]
  simp only
  cases et : c.tx with
  | nil => exact h
  | cons r m =>
    simp only
    obtain ⟨q1, _⟩ := Q.full i c e (by rw [et]; simp)
    obtain ⟨l1, l2, _, _, l5⟩ := let_of q1 et
    have hq := div_lt hc.1 (show (i : Int) < n.R * n.C by omega) (by omega)
    exact (paint_T (goes_T h (by omega) (by omega) (by omega))).app (text_T l1 l2 l5)
theorem body_T {n : GM} (hn : wholeB n = true) : ∀ (L : List Nat) (O : OX), (∀ i, i ∈ L → i < n.l.length) → TokL O.b → TokL (L.foldl (cellO n) O).b
  | [], O, _, h => h
  | i :: L, O, hL, h => body_T hn L _ (fun j hj => hL j (by simp [hj])) (cell_T hn (hL i (by simp)) h)
theorem tail_T {n : GM} {O : OX} (hn : wholeB n = true) (h : TokL O.b) : TokL (tailL n O) := by
  obtain ⟨hr, hc, _, hy, hx, _⟩ := whole_of hn
  obtain ⟨c1, c2, c3⟩ := cur_div hn
  unfold tailL
  exact ((paint_T h).app (.one (place_Q c3 (by omega) (by rw [c1]; omega)))).app (.one (.inl ⟨104, .inl rfl, rfl⟩))
/-- What emit tells is such tokens. -/
theorem emit_T {o n : GM} : TokL (emitL o n) := by
  unfold emitL
  by_cases h1 : wholeB n = false ∨ o = n
  · rw [if_pos h1]; exact .nil
  rw [if_neg h1]
  have hn : wholeB n = true := by cases h : wholeB n with | true => rfl | false => exact absurd (.inl h) h1
  obtain ⟨hr, hc, _, hy, hx, _⟩ := whole_of hn
  obtain ⟨c1, c2, c3⟩ := cur_div hn
  have hide : TokL hideL := .one (.inl ⟨108, .inr rfl, rfl⟩)
  have wipe : TokL wipesL := .one (.inr (.inl ⟨[50], 74, fun x hx => by simp at hx; omega, .inr (.inl rfl), rfl⟩))
  have mem : ∀ (l : List Cel) i, i ∈ toldL l n.l → i < n.l.length := fun l i hi => by
    unfold toldL at hi
    exact List.mem_range.1 (List.mem_filter.1 hi).1
  split
  · split
    · exact .one (place_Q c3 (by omega) (by rw [c1]; omega))
    · exact tail_T hn (body_T hn _ _ (mem _) hide)
  · exact tail_T hn (body_T hn _ _ (mem _) (hide.app wipe))
end Go.Proofs.YthmpaddhmgnkbaaDoor.Am
end
section
/- The document's digits and sequence, at bytes that are tokens. -/
set_option linter.unusedSimpArgs false
set_option linter.unusedVariables false
set_option maxHeartbeats 8000000
set_option maxRecDepth 20000
namespace Go.Proofs.YthmpaddhmgnkbaaDoor.Am
open Go Go.RowKit Go.Proofs.Tryd
theorem RdI.byte {h : Heap} {bv : Value} {bs : List Int} (R : RdI prog h .u8 bv bs) {p : Nat} {z : Int} (hz : bs[p]? = some z) : aindexAddr prog 30 bv (.int .i64 (p : Int)) = some (.pointer (some (eltA bv 1 p))) ∧ aload prog h 5 (eltA bv 1 p) = some (.int .u8 z) := by
  have hlt := (List.getElem?_eq_some_iff.1 hz).1
  have I := RdI.index R underlying30 asz5 (q := .i64) (i := (p : Int)) (by omega) (by omega)
  have L := RdI.at R (t := 5) underlying5 rfl (i := p) hlt
  rw [Int.toNat_natCast] at I
  rw [List.getD_eq_getElem?_getD, hz] at L
  exact ⟨I, L⟩
theorem app_at {a b : List Int} {i : Nat} : (a ++ b)[a.length + i]? = b[i]? := by
  rw [List.getElem?_append_right (by omega)]; congr 1; omega
theorem digits_ok22 {h : Heap} {bv : Value} {bs pre d post : List Int} {c : Int} (R : RdI prog h .u8 bv bs) (e : bs = pre ++ (d ++ c :: post)) (hd : DigQ d) (hc : c < 48 ∨ 57 < c) (hl : bs.length ≤ 1000000000) :
    ACalls prog 59 #[bv, .int .i64 (pre.length : Int)] h (fun y h' => y = .int .i64 (d.length : Int) ∧ h' = h) := by
  refine acalls_of_W func59 rfl (by kernel_rfl) (by kernel_rfl) (by simp [ntmps59]) ?_
  have hlen : bs.length = pre.length + (d.length + (post.length + 1)) := by rw [e]; simp
  have LN := RdI.len R underlying30
  simp only [wk, wt, wl, ↓reduceIte, Nat.reduceEqDiff, Nat.reduceAdd, wz]
  refine W_loop (fun tm hh => h = hh ∧ tm 0 = bv ∧ tm 1 = .int .i64 (pre.length : Int) ∧ ∃ i : Nat, tm 5 = .int .i64 (i : Int) ∧ i ≤ d.length) (fun tm _ => (d.length - intOf (tm 5)).toNat) ⟨rfl, (by first | rfl | (simp only [wk, wt, wl, ↓reduceIte, Nat.reduceEqDiff, Nat.reduceAdd, wz]; done) | (simp only [wk, wt, wl, ↓reduceIte, Nat.reduceEqDiff, Nat.reduceAdd, wz]; rfl)), (by first | rfl | (simp only [wk, wt, wl, ↓reduceIte, Nat.reduceEqDiff, Nat.reduceAdd, wz]; done) | (simp only [wk, wt, wl, ↓reduceIte, Nat.reduceEqDiff, Nat.reduceAdd, wz]; rfl)), 0, (by first | rfl | (simp only [wk, wt, wl, ↓reduceIte, Nat.reduceEqDiff, Nat.reduceAdd, wz]; done) | (simp only [wk, wt, wl, ↓reduceIte, Nat.reduceEqDiff, Nat.reduceAdd, wz]; rfl)), by omega⟩ ?_
  rintro tm _ ⟨rfl, t0, t1, i, t5, hi⟩
  have w1 : IntKind.i64.wrap ((pre.length : Int) + (i : Int)) = ((pre.length + i : Nat) : Int) := by rw [IntWalk.i64_in _ (by omega)]; omega
  have dl : decide (((pre.length + i : Nat) : Int) < (bs.length : Int)) = true := decide_eq_true (by omega)
  rcases Nat.lt_or_ge i d.length with h1 | h1
  · have hz : bs[pre.length + i]? = some d[i] := by rw [e, app_at, List.getElem?_append_left h1, List.getElem?_eq_getElem h1]
    have hq := hd d[i] (List.getElem_mem h1)
    obtain ⟨I, L⟩ := R.byte hz
    have d1 : decide (48 ≤ d[i]) = true := decide_eq_true hq.1
    have d2 : decide (d[i] ≤ 57) = true := decide_eq_true hq.2
    have wi : IntKind.i64.wrap ((i : Int) + 1) = ((i + 1 : Nat) : Int) := by rw [IntWalk.i64_in _ (by omega)]; omega
    simp only [wk, wt, wl, ↓reduceIte, Nat.reduceEqDiff, Nat.reduceAdd, wz, t0, t1, t5, LN, w1, dl, I, L, d1, d2, wi, intOf_int]
    exact ⟨⟨i + 1, rfl, by omega⟩, by omega⟩
  · obtain rfl : i = d.length := by omega
    have hz : bs[pre.length + d.length]? = some c := by rw [e, app_at, List.getElem?_append_right (by omega)]; simp
    obtain ⟨I, L⟩ := R.byte hz
    by_cases c1 : 48 ≤ c
    · have d1 : decide (48 ≤ c) = true := decide_eq_true c1
      have d2 : decide (c ≤ 57) = false := decide_eq_false (by omega)
      simp only [wk, wt, wl, ↓reduceIte, Nat.reduceEqDiff, Nat.reduceAdd, wz, t0, t1, t5, LN, w1, dl, I, L, d1, d2]
    · have d1 : decide (48 ≤ c) = false := decide_eq_false c1
      simp only [wk, wt, wl, ↓reduceIte, Nat.reduceEqDiff, Nat.reduceAdd, wz, t0, t1, t5, LN, w1, dl, I, L, d1]
theorem seq_other {h : Heap} {bv : Value} {bs : List Int} {p : Nat} {z : Int} (R : RdI prog h .u8 bv bs) (hz : bs[p]? = some z) (h27 : z ≠ 27) (hl : bs.length ≤ 1000000000) :
    ACalls prog 39 #[bv, .int .i64 (p : Int)] h (fun y h' => y = .int .i64 0 ∧ h' = h) := by
  refine acalls_of_W func39 rfl (by kernel_rfl) (by kernel_rfl) (by simp [ntmps39]) ?_
  have hlt := (List.getElem?_eq_some_iff.1 hz).1
  have LN := RdI.len R underlying30
  obtain ⟨I, L⟩ := R.byte hz
  have w2 : IntKind.i64.wrap ((p : Int) + 2) = (p : Int) + 2 := IntWalk.i64_in _ (by omega)
  have d1 : decide (¬ z = 27) = true := decide_eq_true h27
  by_cases c1 : (bs.length : Int) ≤ (p : Int) + 2
  · have d0 := decide_eq_true c1
    simp only [wk, wt, wl, ↓reduceIte, Nat.reduceEqDiff, Nat.reduceAdd, wz, LN, w2, d0]
  · have d0 := decide_eq_false c1
    simp only [wk, wt, wl, ↓reduceIte, Nat.reduceEqDiff, Nat.reduceAdd, wz, LN, w2, d0, I, L, d1]
theorem seq_some {h : Heap} {bv : Value} {bs pre s post : List Int} (R : RdI prog h .u8 bv bs) (e : bs = pre ++ (s ++ post)) (hs : SqQ s) (hl : bs.length ≤ 1000000000) :
    ACalls prog 39 #[bv, .int .i64 (pre.length : Int)] h (fun y h' => y = .int .i64 (s.length : Int) ∧ h' = h) := by
  refine acalls_of_W func39 rfl (by kernel_rfl) (by kernel_rfl) (by simp [ntmps39]) ?_
  have LN := RdI.len R underlying30
  have hlen : bs.length = pre.length + (s.length + post.length) := by rw [e]; simp
  have at0 : ∀ i, bs[pre.length + i]? = (s ++ post)[i]? := fun i => by rw [e, app_at]
  have wk' : ∀ k : Nat, k ≤ 6 → IntKind.i64.wrap ((pre.length : Int) + (k : Int)) = ((pre.length + k : Nat) : Int) := fun k hk => by rw [IntWalk.i64_in _ (by omega)]; omega
  have w1 := wk' 1 (by omega)
  have w2 := wk' 2 (by omega)
  have w3 := wk' 3 (by omega)
  have w4 := wk' 4 (by omega)
  have w5 := wk' 5 (by omega)
  simp only [Int.cast_ofNat_Int] at w1 w2 w3 w4 w5
  have n27 : decide (¬ (27 : Int) = 27) = false := by decide
  have n91 : decide (¬ (91 : Int) = 91) = false := by decide
  rcases hs with ⟨c, hc, rfl⟩ | ⟨d, c, hd, hc, rfl⟩ | ⟨d, e', hd, he, rfl⟩
  · simp only [List.length_cons, List.length_nil] at hlen
    obtain ⟨I0, L0⟩ := R.byte (p := pre.length) (z := 27) (by have := at0 0; simpa using this)
    obtain ⟨I1, L1⟩ := R.byte (p := pre.length + 1) (z := 91) (by rw [at0]; rfl)
    obtain ⟨I2, L2⟩ := R.byte (p := pre.length + 2) (z := 63) (by rw [at0]; rfl)
    obtain ⟨I3, L3⟩ := R.byte (p := pre.length + 3) (z := 50) (by rw [at0]; rfl)
    obtain ⟨I4, L4⟩ := R.byte (p := pre.length + 4) (z := 53) (by rw [at0]; rfl)
    obtain ⟨I5, L5⟩ := R.byte (p := pre.length + 5) (z := c) (by rw [at0]; rfl)
    have d2 : decide ((bs.length : Int) ≤ ((pre.length + 2 : Nat) : Int)) = false := decide_eq_false (by omega)
    have d5 : decide (((pre.length + 5 : Nat) : Int) < (bs.length : Int)) = true := decide_eq_true (by omega)
    have k1 : decide ((108 : Int) = 104) = false := by decide
    have k2 : decide ((104 : Int) = 104) = true := by decide
    have k3 : decide ((108 : Int) = 108) = true := by decide
    rcases hc with rfl | rfl
    · simp only [wk, wt, wl, ↓reduceIte, Nat.reduceEqDiff, Nat.reduceAdd, wz, LN, w1, w2, w3, w4, w5, d2, d5, n27, n91, I0, L0, I1, L1, I2, L2, I3, L3, I4, L4, I5, L5, k2]
      exact ⟨rfl, trivial⟩
    · simp only [wk, wt, wl, ↓reduceIte, Nat.reduceEqDiff, Nat.reduceAdd, wz, LN, w1, w2, w3, w4, w5, d2, d5, n27, n91, I0, L0, I1, L1, I2, L2, I3, L3, I4, L4, I5, L5, k1, k3]
      exact ⟨rfl, trivial⟩
  · simp only [List.length_cons, List.length_append, List.length_nil] at hlen
    obtain ⟨I0, L0⟩ := R.byte (p := pre.length) (z := 27) (by have := at0 0; simpa using this)
    obtain ⟨I1, L1⟩ := R.byte (p := pre.length + 1) (z := 91) (by rw [at0]; rfl)
    obtain ⟨z2, hz2, hn2⟩ : ∃ z2, bs[pre.length + 2]? = some z2 ∧ z2 ≠ 63 := by
      rw [at0]
      cases d with
      | nil => exact ⟨c, rfl, by omega⟩
      | cons y d => exact ⟨y, rfl, by have := hd y (by simp); omega⟩
    obtain ⟨I2, L2⟩ := R.byte hz2
    have d63 : decide (z2 = 63) = false := decide_eq_false hn2
    have d2 : decide ((bs.length : Int) ≤ ((pre.length + 2 : Nat) : Int)) = false := decide_eq_false (by omega)
    have hp2 : (pre ++ [27, 91]).length = pre.length + 2 := by simp
    have DG := digits_ok22 (pre := pre ++ [27, 91]) (d := d) (c := c) (post := post) R (by rw [e]; simp) hd (by omega) hl
    rw [hp2] at DG
    have hzc : bs[pre.length + 2 + d.length]? = some c := by
      rw [Nat.add_assoc, at0]
      show ((27 :: 91 :: (d ++ [c])) ++ post)[2 + d.length]? = some c
      rw [show 2 + d.length = d.length + 1 + 1 by omega]
      simp
    obtain ⟨I3, L3⟩ := R.byte hzc
    have w6 : IntKind.i64.wrap (((pre.length + 2 : Nat) : Int) + (d.length : Int)) = ((pre.length + 2 + d.length : Nat) : Int) := by rw [IntWalk.i64_in _ (by omega)]; omega
    have w7 : IntKind.i64.wrap (((pre.length + 2 + d.length : Nat) : Int) + 1) = ((pre.length + 2 + d.length + 1 : Nat) : Int) := by rw [IntWalk.i64_in _ (by omega)]; omega
    have w8 : IntKind.i64.wrap (((pre.length + 2 + d.length + 1 : Nat) : Int) - (pre.length : Int)) = ((27 :: 91 :: (d ++ [c])).length : Int) := by
      simp only [List.length_cons, List.length_append, List.length_nil]
      rw [IntWalk.i64_in _ (by omega)]; omega
    have dl : decide (((pre.length + 2 + d.length : Nat) : Int) < (bs.length : Int)) = true := decide_eq_true (by omega)
    simp only [wk, wt, wl, ↓reduceIte, Nat.reduceEqDiff, Nat.reduceAdd, wz, LN, w1, w2, d2, n27, n91, I0, L0, I1, L1, I2, L2, d63]
    refine DG.use_pure ?_
    have k1 : decide (c = 67) = true ∨ (decide (c = 67) = false ∧ decide (c = 75) = false ∧ decide (c = 74) = true) ∨ (decide (c = 67) = false ∧ decide (c = 75) = false ∧ decide (c = 74) = false ∧ decide (c = 109) = true) := by
      rcases hc with rfl | rfl | rfl <;> decide
    rcases k1 with q1 | ⟨q1, q2, q3⟩ | ⟨q1, q2, q3, q4⟩
    · simp only [wk, wt, wl, ↓reduceIte, Nat.reduceEqDiff, Nat.reduceAdd, wz, LN, w6, dl, I3, L3, q1, w7, w8]
    · simp only [wk, wt, wl, ↓reduceIte, Nat.reduceEqDiff, Nat.reduceAdd, wz, LN, w6, dl, I3, L3, q1, q2, q3, w7, w8]
    · simp only [wk, wt, wl, ↓reduceIte, Nat.reduceEqDiff, Nat.reduceAdd, wz, LN, w6, dl, I3, L3, q1, q2, q3, q4, w7, w8]
  · simp only [List.length_cons, List.length_append, List.length_nil] at hlen
    obtain ⟨I0, L0⟩ := R.byte (p := pre.length) (z := 27) (by have := at0 0; simpa using this)
    obtain ⟨I1, L1⟩ := R.byte (p := pre.length + 1) (z := 91) (by rw [at0]; rfl)
    obtain ⟨z2, hz2, hn2⟩ : ∃ z2, bs[pre.length + 2]? = some z2 ∧ z2 ≠ 63 := by
      rw [at0]
      cases d with
      | nil => exact ⟨59, rfl, by omega⟩
      | cons y d => exact ⟨y, rfl, by have := hd y (by simp); omega⟩
    obtain ⟨I2, L2⟩ := R.byte hz2
    have d63 : decide (z2 = 63) = false := decide_eq_false hn2
    have d2 : decide ((bs.length : Int) ≤ ((pre.length + 2 : Nat) : Int)) = false := decide_eq_false (by omega)
    have hp2 : (pre ++ [27, 91]).length = pre.length + 2 := by simp
    have DG := digits_ok22 (pre := pre ++ [27, 91]) (d := d) (c := 59) (post := e' ++ [72] ++ post) R (by rw [e]; simp) hd (by omega) hl
    rw [hp2] at DG
    have hp3 : (pre ++ [27, 91] ++ d ++ [59]).length = pre.length + 2 + d.length + 1 := by simp; omega
    have DH := digits_ok22 (pre := pre ++ [27, 91] ++ d ++ [59]) (d := e') (c := 72) (post := post) R (by rw [e]; simp) he (by omega) hl
    rw [hp3] at DH
    have hzc : bs[pre.length + 2 + d.length]? = some 59 := by
      rw [Nat.add_assoc, at0]
      show ((27 :: 91 :: (d ++ 59 :: (e' ++ [72]))) ++ post)[2 + d.length]? = some 59
      rw [show 2 + d.length = d.length + 1 + 1 by omega]
      simp
    have hzh : bs[pre.length + 2 + d.length + 1 + e'.length]? = some 72 := by
      rw [show pre.length + 2 + d.length + 1 + e'.length = pre.length + (2 + d.length + 1 + e'.length) by omega, at0]
      show ((27 :: 91 :: (d ++ 59 :: (e' ++ [72]))) ++ post)[2 + d.length + 1 + e'.length]? = some 72
      rw [show 2 + d.length + 1 + e'.length = (d.length + (e'.length + 1)) + 1 + 1 by omega]
      simp only [List.cons_append, List.getElem?_cons_succ, List.append_assoc]
      rw [app_at]
      simp
    obtain ⟨I3, L3⟩ := R.byte hzc
    obtain ⟨I4, L4⟩ := R.byte hzh
    have w6 : IntKind.i64.wrap (((pre.length + 2 : Nat) : Int) + (d.length : Int)) = ((pre.length + 2 + d.length : Nat) : Int) := by rw [IntWalk.i64_in _ (by omega)]; omega
    have w7 : IntKind.i64.wrap (((pre.length + 2 + d.length : Nat) : Int) + 1) = ((pre.length + 2 + d.length + 1 : Nat) : Int) := by rw [IntWalk.i64_in _ (by omega)]; omega
    have w9 : IntKind.i64.wrap (1 + (e'.length : Int)) = 1 + (e'.length : Int) := IntWalk.i64_in _ (by omega)
    have w10 : IntKind.i64.wrap (((pre.length + 2 + d.length : Nat) : Int) + (1 + (e'.length : Int))) = ((pre.length + 2 + d.length + 1 + e'.length : Nat) : Int) := by rw [IntWalk.i64_in _ (by omega)]; omega
    have w11 : IntKind.i64.wrap (((pre.length + 2 + d.length + 1 + e'.length : Nat) : Int) + 1) = ((pre.length + 2 + d.length + 1 + e'.length + 1 : Nat) : Int) := by rw [IntWalk.i64_in _ (by omega)]; omega
    have w8 : IntKind.i64.wrap (((pre.length + 2 + d.length + 1 + e'.length + 1 : Nat) : Int) - (pre.length : Int)) = ((27 :: 91 :: (d ++ 59 :: (e' ++ [72]))).length : Int) := by
      simp only [List.length_cons, List.length_append, List.length_nil]
      rw [IntWalk.i64_in _ (by omega)]; omega
    have dl : decide (((pre.length + 2 + d.length : Nat) : Int) < (bs.length : Int)) = true := decide_eq_true (by omega)
    have dm : decide (((pre.length + 2 + d.length + 1 + e'.length : Nat) : Int) < (bs.length : Int)) = true := decide_eq_true (by omega)
    have k1 : decide ((59 : Int) = 67) = false := by decide
    have k2 : decide ((59 : Int) = 75) = false := by decide
    have k3 : decide ((59 : Int) = 74) = false := by decide
    have k4 : decide ((59 : Int) = 109) = false := by decide
    have k5 : decide ((59 : Int) = 59) = true := by decide
    have k6 : decide ((72 : Int) = 72) = true := by decide
    simp only [wk, wt, wl, ↓reduceIte, Nat.reduceEqDiff, Nat.reduceAdd, wz, LN, w1, w2, d2, n27, n91, I0, L0, I1, L1, I2, L2, d63]
    refine DG.use_pure ?_
    simp only [wk, wt, wl, ↓reduceIte, Nat.reduceEqDiff, Nat.reduceAdd, wz, LN, w6, dl, I3, L3, k1, k2, k3, k4, k5, w7]
    refine DH.use_pure ?_
    simp only [wk, wt, wl, ↓reduceIte, Nat.reduceEqDiff, Nat.reduceAdd, wz, LN, w9, w10, dm, I4, L4, k6, w11, w8]
end Go.Proofs.YthmpaddhmgnkbaaDoor.Am
end
section
/- Emit's memory: what gathers bytes and the heap of stretches, side by side; which stretch comes next. -/
set_option linter.unusedSimpArgs false
set_option linter.unusedVariables false
set_option maxHeartbeats 4000000
namespace Go.Proofs.YthmpaddhmgnkbaaDoor.Am
open Go Go.RowKit Go.Proofs.Tryd
section
variable {h0 h h' : Heap} {n : GM} {B : Nat} {vb bv pv pv' : Value} {b3 o q : Nat} {Fs Os Gs Ns : Nat → Prop} {O O' : OX} {l l' : List (Int × Int)}
theorem OutV.aside (Q : OutV h B Os o O bv) (H : Wf h) (C : Ch (Rg Gs h) h h') (hd : ∀ n, Os n → ¬ Gs n) : OutV h' B Os o O bv :=
  ⟨Ch.var H C Q.var (Q.var.apart (hd o Q.os)), Ch.own C Q.own fun z hz ⟨k, g, f⟩ => hd _ (Q.fam z k hz g) f, Q.nb, Q.fam.ch C fun z e => (Rd.blk_lt Q.own.1 e).1, Q.os, fun n hn => Q.up n (Nat.le_trans (Ch.le C) hn), Q.bo⟩
theorem OutP.aside (P : OutP h B Os o O) (H : Wf h) (C : Ch (Rg Gs h) h h') (hd : ∀ n, Os n → ¬ Gs n) : OutP h' B Os o O := by
  obtain ⟨bv, Q⟩ := P
  exact ⟨bv, Q.aside H C hd⟩
theorem OutP.mono (P : OutP h B Os o O) (hs : ∀ n, Os n → Ns n) : OutP h B Ns o O := by
  obtain ⟨bv, Q⟩ := P
  exact ⟨bv, Q.var, Q.own, Q.nb, Q.fam.mono hs, hs o Q.os, fun n hn => hs n (Q.up n hn), Q.bo⟩
theorem OutP.less (P : OutP h B Os o O) (H : Wf h) (K : Keeps h h') {a b : Nat} (ha : h.size ≤ a) (hb : b ≤ h'.size) : OutP h' B (fun n => Os n ∧ ¬ (a ≤ n ∧ n < b)) o O := by
  obtain ⟨bv, Q⟩ := P
  have Q' := Q.keeps H K
  have lt : ∀ z, blkOf bv = some z → z < h.size := fun z e => (Rd.blk_lt Q.own.1 e).1
  refine ⟨bv, Q'.var, Q'.own, Q'.nb, fun z k e g => ⟨Q'.fam z k e g, ?_⟩, ⟨Q.os, fun f => by have := Q.var.lt H; omega⟩, fun n hn => ⟨Q'.up n hn, fun f => by omega⟩, Q.bo⟩
  obtain ⟨k0, g0, e0⟩ := K.2.2.2.2.1 z k (lt z e) g
  have := H.2 z k0 g0
  have := lt z e
  omega
theorem PQ.aside (Q : PQ h Fs q pv l) (H : Wf h) (C : Ch (Rg Gs h) h h') (hd : ∀ n, Fs n → ¬ Gs n) (hq : ¬ Gs q) : PQ h' Fs q pv l :=
  ⟨Ch.var H C Q.var (Q.var.apart hq), Ch.ownR C Q.row fun z hz ⟨k, g, f⟩ => hd _ (Q.fam z k hz g) f, Q.fam.ch C Q.lt, Q.nq⟩
theorem PQ.keeps (Q : PQ h Fs q pv l) (H : Wf h) (K : Keeps h h') : PQ h' Fs q pv l := Q.aside (Gs := fun _ => False) H K.rg (fun n _ e => e) fun e => e
/-- Families of neither the grid's variable nor the stretches. -/
structure Apt (b3 q : Nat) (Fs Os : Nat → Prop) : Prop where
  n3 : ¬ Os b3
  nq : ¬ Os q
  nf : ∀ n, Fs n → ¬ Os n
theorem Apt.sub (A : Apt b3 q Fs Os) (hs : ∀ n, Ns n → Os n) : Apt b3 q Fs Ns := ⟨fun e => A.n3 (hs _ e), fun e => A.nq (hs _ e), fun n e f => A.nf n e (hs _ f)⟩
/-- Emit's memory between steps. -/
structure SE (h0 : Heap) (n : GM) (vb : Value) (b3 o q : Nat) (Fs Os : Nat → Prop) (h : Heap) (O : OX) (pv : Value) (l : List (Int × Int)) : Prop where
  k : Keeps h0 h
  v3 : Var h b3 (mC n vb)
  out : OutP h h0.size Os o O
  pq : PQ h Fs q pv l
  ap : Apt b3 q Fs Os
  p3 : b3 ≠ q ∧ ¬ Fs b3
  ge : h0.size ≤ q ∧ ∀ n, Fs n → h0.size ≤ n
theorem SE.outs (S : SE h0 n vb b3 o q Fs Os h O pv l) (C : Ch (DO h0.size Os h) h h') (P : OutP h' h0.size Os o O') : SE h0 n vb b3 o q Fs Os h' O' pv l := by
  have H := Ch.wf S.k
  exact ⟨S.k.step C fun y hy => hy.2, Ch.var H C S.v3 fun d => S.v3.apart S.ap.n3 d.1, P, S.pq.aside H (C.mono fun x d => d.1) S.ap.nf S.ap.nq, S.ap, S.p3, S.ge⟩
theorem SE.pqs (S : SE h0 n vb b3 o q Fs Os h O pv l) (C : Ch (Rg (fun n => Fs n ∨ n = q) h) h h') (P : PQ h' Fs q pv' l') : SE h0 n vb b3 o q Fs Os h' O pv' l' := by
  have H := Ch.wf S.k
  exact ⟨S.k.step C (fun y ⟨k, g, f⟩ => by
    have := H.2 y k g
    rcases f with f | f
    · have := S.ge.2 _ f; omega
    · have := S.ge.1; omega), Ch.var H C S.v3 (S.v3.apart fun e => e.elim S.p3.2 S.p3.1), S.out.aside H C fun n hn e => e.elim (fun e => S.ap.nf n e hn) (fun e => S.ap.nq (by rw [← e]; exact hn)), P, S.ap, S.p3, S.ge⟩
theorem SE.keeps (S : SE h0 n vb b3 o q Fs Os h O pv l) (K : Keeps h h') : SE h0 n vb b3 o q Fs Os h' O pv l := by
  have H := Ch.wf S.k
  exact ⟨S.k.trans K, Keeps.var H K S.v3, S.out.keeps H K, S.pq.keeps H K, S.ap, S.p3, S.ge⟩
theorem SE.less (S : SE h0 n vb b3 o q Fs Os h O pv l) (K : Keeps h h') {a b : Nat} (ha : h.size ≤ a) (hb : b ≤ h'.size) : SE h0 n vb b3 o q Fs (fun n => Os n ∧ ¬ (a ≤ n ∧ n < b)) h' O pv l := by
  have H := Ch.wf S.k
  exact ⟨S.k.trans K, Keeps.var H K S.v3, S.out.less H K ha hb, S.pq.keeps H K, S.ap.sub fun n e => e.1, S.p3, S.ge⟩
theorem SE.more (S : SE h0 n vb b3 o q Fs Os h O pv l) (A : Apt b3 q Fs Ns) (hs : ∀ n, Os n → Ns n) : SE h0 n vb b3 o q Fs Ns h O pv l :=
  ⟨S.k, S.v3, S.out.mono hs, S.pq, A, S.p3, S.ge⟩
/-- A variable of no such family stays. -/
theorem Ch.varO {cs : List Value} {t : Nat} (H : Wf h) (C : Ch (DO B Os h) h h') (V : Var h t cs) (ht : ¬ Os t) : Var h' t cs := Ch.var H C V fun d => V.apart ht d.1
end
/-- Which stretch comes next. -/
theorem pop_is {S l' : List (Int × Int)} {x : Int × Int} {k : Nat} (hS : S.Pairwise fun p q => p.1 < q.1) (hp : (x :: l').Perm (S.drop k)) (hm : ∀ y, y ∈ x :: l' → x.1 ≤ y.1) : k < S.length ∧ S[k]? = some x ∧ l'.Perm (S.drop (k + 1)) := by
  have hk : k < S.length := by
    have := hp.length_eq
    rw [List.length_cons, List.length_drop] at this
    omega
  have e : S.drop k = S[k] :: S.drop (k + 1) := List.drop_eq_getElem_cons hk
  rw [e] at hp
  have hs2 : (S.drop k).Pairwise fun p q => p.1 < q.1 := hS.sublist (List.drop_sublist k S)
  rw [e, List.pairwise_cons] at hs2
  have h1 : x.1 ≤ (S[k]).1 := hm _ (hp.mem_iff.2 List.mem_cons_self)
  have h2 : x ∈ S[k] :: S.drop (k + 1) := hp.mem_iff.1 List.mem_cons_self
  have hx : x = S[k] := by
    rcases List.mem_cons.1 h2 with h2 | h2
    · exact h2
    · have := hs2.1 x h2; omega
  subst hx
  exact ⟨hk, List.getElem?_eq_getElem hk, hp.cons_inv⟩
theorem pieces_asc {o n : List Cel} (h0 : ∀ i, bareB n i = true → 1 ≤ i) (k : Nat) : (piecesL o n k).Pairwise fun p q => p.1 < q.1 := by
  have P := pieces_PI (o := o) h0 k
  refine P.sep.imp_of_mem fun {p q} hp _ h => ?_
  have := P.ok p hp
  omega
/-- What a cell adds at most. -/
theorem cellO_bd {n : GM} {O : OX} {i : Nat} (hn : wholeB n = true) (hi : i < n.l.length) (hp : -1 ≤ O.pos ∧ O.pos ≤ 10000000) : (cellO n O i).b.length ≤ O.b.length + 28 ∧ -1 ≤ (cellO n O i).pos ∧ (cellO n O i).pos ≤ 10000000 := by
  obtain ⟨hr, hc, hN, _, _, _⟩ := whole_of hn
  have Q := rowQ_of hn
  have hbd : n.R * n.C ≤ 500000 := by
    have a : n.R * n.C ≤ 500 * n.C := Int.mul_le_mul_of_nonneg_right hr.2 (by omega)
    omega
  obtain ⟨c, e⟩ : ∃ c, n.l[i]? = some c := ⟨_, List.getElem?_eq_getElem hi⟩
  unfold cellO
  rw [e]
  simp only
  cases et : c.tx with
  | nil => simp only; omega
  | cons r m =>
    simp only
    obtain ⟨q1, _⟩ := Q.full i c e (by rw [et]; simp)
    obtain ⟨_, _, _, l4, _⟩ := let_of q1 et
    have wb := widthZ_le r
    have en := encL_len (r :: m)
    rw [List.length_cons] at en
    have pl := place_len (i := (i : Int)) (C := n.C)
    have fl := fwd_len (n := (i : Int) - O.pos)
    have g1 : (goesO O i n.C).b.length ≤ O.b.length + 12 := by
      unfold goesO
      split
      · omega
      · simp only; rw [List.length_append]; split <;> omega
    have g2 : (paintO (goesO O i n.C) c.ar).b.length ≤ (goesO O i n.C).b.length + 4 := by
      unfold paintO
      split
      · omega
      · simp only; rw [List.length_append]; split <;> simp
    refine ⟨by rw [List.length_append]; omega, ?_, ?_⟩ <;> split <;> omega
end Go.Proofs.YthmpaddhmgnkbaaDoor.Am
end
section
/- emit.Emit: a cut behind its first half; what holds there. -/
set_option linter.unusedSimpArgs false
set_option linter.unusedVariables false
set_option maxHeartbeats 8000000
set_option maxRecDepth 20000
namespace Go.Proofs.YthmpaddhmgnkbaaDoor.Am
open Go Go.RowKit Go.Proofs.Tryd
/-- Code whose part behind k statements is another; that part. -/
def pasteC : Nat → Code → Code → Code
  | 0, _, X => X
  | k + 1, .seq a b, X => .seq a (pasteC k b X)
  | _ + 1, c, _ => c
def tailC : Nat → Code → Code
  | 0, c => c
  | k + 1, .seq _ b => tailC k b
  | _ + 1, c => c
theorem paste_tail : ∀ (k : Nat) (c : Code), pasteC k c (tailC k c) = c
  | 0, c => rfl
  | k + 1, c => by
    cases c with
    | seq a b => simp only [pasteC, tailC, paste_tail k b]
    | _ => rfl
theorem W_cut {P : Program} {n : Nat} {c : Code} {Q : Exit → Tm → Heap → Prop} {tm : Tm} {h : Heap} (k : Nat) (M : Tm → Heap → Prop) (H1 : ∀ X, (∀ tm h, M tm h → W P n X Q tm h) → W P n (pasteC k c X) Q tm h) (H2 : ∀ tm h, M tm h → W P n (tailC k c) Q tm h) : W P n c Q tm h := by
  have := H1 (tailC k c) H2
  rwa [paste_tail] at this
/-- What holds behind Emit's first half. -/
def EM (h : Heap) (a b : GM) (vb : Value) (tm : Tm) (hh : Heap) : Prop := ∃ (a' : GM) (va' : Value) (O : OX) (b2 b3 o : Nat), tm 2 = pt b2 ∧ tm 3 = pt b3 ∧ tm 5 = pt o ∧ Keeps h hh ∧ Var hh b2 (mC a' va') ∧ Var hh b3 (mC b vb) ∧ GR hh va' a'.l ∧ a'.l.length = b.l.length ∧ TxB a'.l ∧ OutP hh h.size (fun n => o ≤ n) o O ∧ b3 < o ∧ h.size ≤ b3 ∧
  wholeB b = true ∧ emitL a b = tailL b (bodyO a' b O) ∧ O.b.length ≤ 10 ∧ -1 ≤ O.pos ∧ O.pos ≤ 10000000
theorem litHide : (⟨#[27, 91, 63, 50, 53, 108]⟩ : ByteArray) = strOfNums hideL := by decide
theorem litWipe : (⟨#[27, 91, 50, 74]⟩ : ByteArray) = strOfNums wipesL := by decide
theorem litShow : (⟨#[27, 91, 63, 50, 53, 104]⟩ : ByteArray) = strOfNums [27, 91, 63, 50, 53, 104] := by decide
theorem build_out : abuild prog 50 #[(2, .int .i64 (-1))] = some (.agg #[.slice none 0 0, .int .i64 0, .int .i64 (-1)]) := by simp [abuild, wt, aplaces, Instr.fill, Value.cells]
theorem boxV_out {h : Heap} {v : Value} {x y : Int} (o : one v = true) : boxV prog h 50 (.agg #[v, .int .i64 x, .int .i64 y]) = some (.pointer (some ⟨h.size, 0, none⟩), h.new 50 [v, .int .i64 x, .int .i64 y]) := by
  simp [boxV, asz50, Value.cells, one_cells o, o, one_int]
theorem GR.apart {h h' : Heap} {D : Nat → Prop} {cv : Value} {l : List Cel} {Fs Ms : Nat → Prop} {ps : List PC} (G : GP h Fs Ms cv l ps) (C : Ch D h h') (hc : ∀ z, blkOf cv = some z → ¬ D z) (ho : ∀ v, Fam h (Off Fs Ms) v → ∀ z, blkOf v = some z → ¬ D z) : GR h' cv l :=
  ⟨ps, G.eq, Ch.rd C G.own.1 hc, fun p hp => Ch.rd C (G.rd p hp) (ho _ (G.off p hp))⟩
theorem mV_blank {R C : Int} {cv : Value} : Value.agg #[.int .i64 (sizeR R), .int .i64 (sizeC C), cv, .int .i64 0, .int .i64 0] = mV (blankG R C) cv := rfl
theorem txb_blank {R C : Int} : TxB (blankG R C).l := fun c hc => by
  have : c = bl 0 := List.eq_of_mem_replicate hc
  rw [this]; simp [bl]
theorem arr_var {h : Heap} (H : Wf h) {x y : Int} : ∃ h', storeV prog (h.new 57 [.int .i64 0, .int .i64 0]) 57 (.pointer (some ⟨h.size, 0, none⟩)) (.agg #[.int .i64 x, .int .i64 y]) = some (undef, h') ∧ Var h' h.size [.int .i64 x, .int .i64 y] ∧ Keeps h h' ∧ h'.size = h.size + 1 := by
  have N1 := Keeps.new H 57 [.int .i64 0, .int .i64 0]
  have V1 := Var.new (e := 57) H (cs := [.int .i64 0, .int .i64 0])
  obtain ⟨h2, s2, V2, C2, z2⟩ := V1.store (P := prog) (t := 57) (v := .agg #[.int .i64 x, .int .i64 y]) (i := 0) (Ch.wf N1) asz57 (by simp [Value.cells]) (by simp [Value.cells, one_int])
  rw [cells_two, over_all (xs := [.int .i64 0, .int .i64 0]) (vs := [.int .i64 x, .int .i64 y]) rfl] at V2
  exact ⟨h2, s2, V2, N1.step C2 fun y e => by omega, z2⟩
/-- How many stretches a heap's variable tells of. -/
noncomputable def qlen (h : Heap) (q : Nat) : Nat := match aload prog h 76 ⟨q, 0, none⟩ with
  | some (.slice _ n _) => n
  | _ => 0
theorem PQ.qlen {h : Heap} {Fs : Nat → Prop} {q : Nat} {pv : Value} {l : List (Int × Int)} (Q : PQ h Fs q pv l) : qlen h q = l.length := by
  unfold Am.qlen
  rw [Q.load]
  rcases Q.row.1.2 with ⟨e, rfl | rfl⟩ | ⟨b, o, c, k, rfl, _⟩
  · exact e.symm
  · exact e.symm
  · rfl
theorem range_snoc {s i : Nat} (h : s ≤ i) : List.range' s (i + 1 - s) = List.range' s (i - s) ++ [i] := by
  rw [show i + 1 - s = (i - s) + 1 by omega, List.range'_1_concat, show s + (i - s) = i by omega]
theorem neg_apt {b3 q o s4 s5 : Nat} (h1 : b3 < o) (h2 : s4 ≤ q ∧ q < s5) : Apt b3 q (fun n => s4 ≤ n ∧ n < s5 ∧ n ≠ q) (fun n => o ≤ n ∧ ¬ (s4 ≤ n ∧ n < s5)) := ⟨fun e => by omega, fun e => e.2 h2, fun n e f => f.2 ⟨e.1, e.2.1⟩⟩
/-- A cell, as it is read later; its text as it was. -/
theorem GR.atK {h h' : Heap} {cv : Value} {l : List Cel} {i : Nat} {c : Cel} (G : GR h cv l) (K : Keeps h h') (hi : l[i]? = some c) : ∃ tv, RdI prog h .i32 tv c.tx ∧ aload prog h' 45 (eltA cv 3 i) = some (.agg #[tv, .int .i64 c.ar, .bool c.wd]) ∧ aindexAddr prog 22 cv (.int .i64 (i : Int)) = some (.pointer (some (eltA cv 3 i))) := by
  obtain ⟨ps, rfl, R, A⟩ := G
  rw [List.getElem?_map, Option.map_eq_some_iff] at hi
  obtain ⟨p, hp, rfl⟩ := hi
  have hlt := (List.getElem?_eq_some_iff.1 hp).1
  have I := Rd.index R underlying22 asz45 (q := .i64) (i := (i : Int)) (by omega) (by omega)
  rw [Int.toNat_natCast] at I
  exact ⟨p.1, A p (List.mem_of_getElem? hp), (RS.keeps R K).agg cC_len underlying45 rfl asz45 hp, I⟩
theorem emit_ok {h : Heap} {va vb : Value} {a b : GM} (A : GR h va a.l) (Bv : GR h vb b.l) (ha : a.l.length ≤ 1000000) (hb : b.l.length ≤ 1000000) (Ta : TxR a.l) (Tb : TxR b.l) (G : Gl h) (Gt0 : Gt h) :
    ACalls prog 13 #[mV a va, mV b vb] h (fun v h' => RdI prog h' .u8 v (emitL a b) ∧ (∀ z, blkOf v = some z → h.size ≤ z) ∧ Keeps h h') := by
  refine acalls_of_W' func13 rfl (by kernel_rfl) (by kernel_rfl) (by simp [ntmps13]) ?_
  intro H
  refine W_cut 5 (EM h a b vb) (fun X hX => ?_) ?_
  · simp only [pasteC]
    have o1 := A.one
    have o2 := Bv.one
    have N1 := Keeps.new H 24 (mC a va)
    have V1 := Var.new (e := 24) H (cs := mC a va)
    have hz1 : (h.new 24 (mC a va)).size = h.size + 1 := rfl
    have N2 := Keeps.new (Ch.wf N1) 24 (mC b vb)
    have V2 := Var.new (e := 24) (Ch.wf N1) (cs := mC b vb)
    rw [hz1] at V2
    have V12 := Keeps.var (Ch.wf N1) N2 V1
    have K2 := N1.trans N2
    have hz2 : ((h.new 24 (mC a va)).new 24 (mC b vb)).size = h.size + 2 := rfl
    obtain ⟨_, _, _, _, _, r5⟩ := grid_load V2
    simp only [wk, wt, wl, ↓reduceIte, Nat.reduceEqDiff, Nat.reduceAdd, wz, pt, aeff_box, boxV_mgrid o1, boxV_mgrid o2, hz1, newSz, r5]
    generalize (h.new 24 (mC a va)).new 24 (mC b vb) = h2 at *
    refine (wholeQ_ok (Bv.keeps K2) (G.keeps K2) Tb (by omega)).use ?_
    rintro _ h3 ⟨rfl, K23⟩
    have K3 := K2.trans K23
    have W1 := Keeps.var (Ch.wf K2) K23 V12
    have W2 := Keeps.var (Ch.wf K2) K23 V2
    obtain ⟨_, _, _, _, _, q5⟩ := grid_load W1
    obtain ⟨_, _, _, _, _, r6⟩ := grid_load W2
    cases hq : wholeB b with
    | false =>
      have he : emitL a b = [] := emit_nil.2 (.inl hq)
      rw [he]
      simp only [wk, wt, wl, ↓reduceIte, Nat.reduceEqDiff, Nat.reduceAdd, wz, Bool.not_false, pt]
      exact ⟨Rd.nil0, (fun z e => by cases e), K3⟩
    | true =>
    simp only [wk, wt, wl, ↓reduceIte, Nat.reduceEqDiff, Nat.reduceAdd, wz, Bool.not_true, pt, q5, r6]
    refine (sameG_ok (A.keeps K3) (Bv.keeps K3) (by omega) Ta.b).use ?_
    rintro _ h4 ⟨rfl, K34⟩
    have K4 := K3.trans K34
    have Y1 := Keeps.var (Ch.wf K3) K34 W1
    have Y2 := Keeps.var (Ch.wf K3) K34 W2
    by_cases cab : a = b
    · have he : emitL a b = [] := emit_nil.2 (.inr cab)
      rw [he]
      have d1 := decide_eq_true cab
      simp only [wk, wt, wl, ↓reduceIte, Nat.reduceEqDiff, Nat.reduceAdd, wz, d1]
      exact ⟨Rd.nil0, (fun z e => by cases e), K4⟩
    have d1 := decide_eq_false cab
    have hne : ¬ (wholeB b = false ∨ a = b) := by rw [hq]; simp [cab]
    have N5 := Keeps.new (Ch.wf K4) 50 [.slice none 0 0, .int .i64 0, .int .i64 (-1)]
    have V5 := Var.new (e := 50) (Ch.wf K4) (cs := [.slice none 0 0, .int .i64 0, .int .i64 (-1)])
    have K5 := K4.trans N5
    have hsz4 := Ch.le K4
    have l3 := W2.lt (Ch.wf K3)
    have l4 := Y2.lt (Ch.wf K4)
    have hz5 : (h4.new 50 [.slice none 0 0, .int .i64 0, .int .i64 (-1)]).size = h4.size + 1 := rfl
    have U1 := Keeps.var (Ch.wf K4) N5 Y1
    have U2 := Keeps.var (Ch.wf K4) N5 Y2
    have P5 : OutP (h4.new 50 [.slice none 0 0, .int .i64 0, .int .i64 (-1)]) h.size (fun n => h4.size ≤ n) h4.size ⟨[], 0, -1⟩ := ⟨.slice none 0 0, V5, Own.nil0, (fun e => by cases e), (fun z k e => by cases e), Nat.le_refl _, fun n hn => by omega, hsz4⟩
    simp only [wk, wt, wl, ↓reduceIte, Nat.reduceEqDiff, Nat.reduceAdd, wz, d1, build_out, aeff_box, boxV_out (show one (Value.slice none 0 0) = true from rfl), litHide]
    generalize h4.new 50 [.slice none 0 0, .int .i64 0, .int .i64 (-1)] = h5 at *
    refine (add_ok P5 (Ch.le K5) hide_B (by decide) (by simp [hideL])).use ?_
    rintro _ h6' ⟨P6', C6⟩
    have K6' := K5.step C6 fun y hy => hy.2
    have Z1' := Ch.varO (Ch.wf K5) C6 U1 (by omega)
    have Z2' := Ch.varO (Ch.wf K5) C6 U2 (by omega)
    obtain ⟨_, _, _, _, _, q6⟩ := grid_load Z1'
    simp only [wk, wt, wl, ↓reduceIte, Nat.reduceEqDiff, Nat.reduceAdd, wz, pt, q6]
    refine (wholeQ_ok (A.keeps K6') (G.keeps K6') Ta (by omega)).use ?_
    rintro _ h6 ⟨rfl, K66⟩
    have P6 := P6'.keeps (Ch.wf K6') K66
    have K6 := K6'.trans K66
    have Z1 := Keeps.var (Ch.wf K6') K66 Z1'
    have Z2 := Keeps.var (Ch.wf K6') K66 Z2'
    obtain ⟨z0, z1, _, _, _, z5⟩ := grid_load Z1
    obtain ⟨y0, y1, _, y3, y4, y5⟩ := grid_load Z2
    obtain ⟨hr, hc, hN, hy, hx, _⟩ := whole_of hq
    have hlenB : (blankG b.R b.C).l.length = b.l.length := by
      show (blankL b.R b.C).length = _
      have es := size_in hr hc
      unfold blankL
      rw [es.1, es.2, List.length_replicate]
      omega
    cases hqa : wholeB a with
    | false =>
      have hfit : ¬ (wholeB a = true ∧ a.R = b.R ∧ a.C = b.C) := by rw [hqa]; simp
      simp only [wk, wt, wl, ↓reduceIte, Nat.reduceEqDiff, Nat.reduceAdd, wz, Bool.not_false, pt]
      simp only [wk, wt, wl, ↓reduceIte, Nat.reduceEqDiff, Nat.reduceAdd, wz, pt, litWipe]
      refine (add_ok P6 (Ch.le K6) wipes_B (by decide) (by simp [hideL, wipesL])).use ?_
      rintro _ h7 ⟨P7, C7⟩
      have K7 := K6.step C7 fun y hy => hy.2
      have W7 := Ch.varO (Ch.wf K6) C7 Z1 (by omega)
      have X7 := Ch.varO (Ch.wf K6) C7 Z2 (by omega)
      obtain ⟨x0, x1, _⟩ := grid_load X7
      simp only [wk, wt, wl, ↓reduceIte, Nat.reduceEqDiff, Nat.reduceAdd, wz, pt, x0, x1]
      refine blankG_ok.use ?_
      rintro _ h8 ⟨cb, ps, rfl, GP8, F8, hcb, K78⟩
      have W8 := Keeps.var (Ch.wf K7) K78 W7
      have X8 := Keeps.var (Ch.wf K7) K78 X7
      have P8 := P7.keeps (Ch.wf K7) K78
      have K8 := K7.trans K78
      rw [mV_blank]
      generalize hcv : Value.slice (some ⟨cb, 0, none⟩) (blankL b.R b.C).length ((blankL b.R b.C).length + 1) = cv at *
      have ocv : one cv = true := by rw [← hcv]; rfl
      obtain ⟨h9, s9, V9, C9, z9⟩ := W8.store (P := prog) (t := 24) (v := mV (blankG b.R b.C) cv) (i := 0) (Ch.wf K8) asz24 (by simp [Value.cells, mV, mC]) (by simp [Value.cells, mV, mC, one_cells ocv, ocv, one_int])
      have e9 : over (mC a va) 0 (mV (blankG b.R b.C) cv).cells.toList = mC (blankG b.R b.C) cv := by
        rw [over_all (by simp [Value.cells, mV, mC])]; simp [Value.cells, mV, mC, one_cells ocv]
      rw [e9] at V9
      have D9 : Ch (Rg (fun n => n = h.size) h8) h8 h9 := C9.mono fun x e => by subst e; exact W8.rg rfl
      have hsz7 := Ch.le K7
      have ap : ∀ (Gs : Nat → Prop) v, (∀ n, Gs n → h7.size ≤ n) → Fam h8 Gs v → ∀ z, blkOf v = some z → ¬ z = h.size := fun Gs v hG F z hz e => by
        subst e
        obtain ⟨k, g, f⟩ := W8.fam
        have := hG _ (F _ k hz g)
        have := W7.lt (Ch.wf K7)
        omega
      simp only [wk, wt, wl, ↓reduceIte, Nat.reduceEqDiff, Nat.reduceAdd, wz, pt, s9]
      refine hX _ _ ?_
      refine ⟨blankG b.R b.C, cv, _, h.size, h.size + 1, h4.size, (by first | rfl | (simp only [wk, wt, wl, ↓reduceIte, Nat.reduceEqDiff, Nat.reduceAdd, wz]; done) | (simp only [wk, wt, wl, ↓reduceIte, Nat.reduceEqDiff, Nat.reduceAdd, wz]; rfl) | (simp only [wk, wt, wl, ↓reduceIte, Nat.reduceEqDiff, Nat.reduceAdd, wz, pt]; done) | (simp only [wk, wt, wl, ↓reduceIte, Nat.reduceEqDiff, Nat.reduceAdd, wz, pt]; rfl)), (by first | rfl | (simp only [wk, wt, wl, ↓reduceIte, Nat.reduceEqDiff, Nat.reduceAdd, wz]; done) | (simp only [wk, wt, wl, ↓reduceIte, Nat.reduceEqDiff, Nat.reduceAdd, wz]; rfl) | (simp only [wk, wt, wl, ↓reduceIte, Nat.reduceEqDiff, Nat.reduceAdd, wz, pt]; done) | (simp only [wk, wt, wl, ↓reduceIte, Nat.reduceEqDiff, Nat.reduceAdd, wz, pt]; rfl)), (by first | rfl | (simp only [wk, wt, wl, ↓reduceIte, Nat.reduceEqDiff, Nat.reduceAdd, wz]; done) | (simp only [wk, wt, wl, ↓reduceIte, Nat.reduceEqDiff, Nat.reduceAdd, wz]; rfl) | (simp only [wk, wt, wl, ↓reduceIte, Nat.reduceEqDiff, Nat.reduceAdd, wz, pt]; done) | (simp only [wk, wt, wl, ↓reduceIte, Nat.reduceEqDiff, Nat.reduceAdd, wz, pt]; rfl)), K8.step C9 (fun y e => by omega), V9, Ch.var (Ch.wf K8) C9 X8 (by omega), GR.apart GP8 C9 (ap _ cv (fun n e => by omega) F8) (fun v F => ap _ v (fun n e => e.1) F), hlenB, txb_blank, P8.aside (Ch.wf K8) D9 (fun n e => by omega), by omega, by omega, hq, ?_, by simp [hideL, wipesL], by simp, by simp⟩
      unfold emitL
      rw [if_neg hne, if_neg hfit]
      rfl
    | true =>
    by_cases cR : a.R = b.R
    case neg =>
      have hfit : ¬ (wholeB a = true ∧ a.R = b.R ∧ a.C = b.C) := fun e => cR e.2.1
      have d2 : decide (¬ a.R = b.R) = true := decide_eq_true cR
      simp only [wk, wt, wl, ↓reduceIte, Nat.reduceEqDiff, Nat.reduceAdd, wz, Bool.not_true, pt, z0, y0, d2]
      simp only [wk, wt, wl, ↓reduceIte, Nat.reduceEqDiff, Nat.reduceAdd, wz, pt, litWipe]
      refine (add_ok P6 (Ch.le K6) wipes_B (by decide) (by simp [hideL, wipesL])).use ?_
      rintro _ h7 ⟨P7, C7⟩
      have K7 := K6.step C7 fun y hy => hy.2
      have W7 := Ch.varO (Ch.wf K6) C7 Z1 (by omega)
      have X7 := Ch.varO (Ch.wf K6) C7 Z2 (by omega)
      obtain ⟨x0, x1, _⟩ := grid_load X7
      simp only [wk, wt, wl, ↓reduceIte, Nat.reduceEqDiff, Nat.reduceAdd, wz, pt, x0, x1]
      refine blankG_ok.use ?_
      rintro _ h8 ⟨cb, ps, rfl, GP8, F8, hcb, K78⟩
      have W8 := Keeps.var (Ch.wf K7) K78 W7
      have X8 := Keeps.var (Ch.wf K7) K78 X7
      have P8 := P7.keeps (Ch.wf K7) K78
      have K8 := K7.trans K78
      rw [mV_blank]
      generalize hcv : Value.slice (some ⟨cb, 0, none⟩) (blankL b.R b.C).length ((blankL b.R b.C).length + 1) = cv at *
      have ocv : one cv = true := by rw [← hcv]; rfl
      obtain ⟨h9, s9, V9, C9, z9⟩ := W8.store (P := prog) (t := 24) (v := mV (blankG b.R b.C) cv) (i := 0) (Ch.wf K8) asz24 (by simp [Value.cells, mV, mC]) (by simp [Value.cells, mV, mC, one_cells ocv, ocv, one_int])
      have e9 : over (mC a va) 0 (mV (blankG b.R b.C) cv).cells.toList = mC (blankG b.R b.C) cv := by
        rw [over_all (by simp [Value.cells, mV, mC])]; simp [Value.cells, mV, mC, one_cells ocv]
      rw [e9] at V9
      have D9 : Ch (Rg (fun n => n = h.size) h8) h8 h9 := C9.mono fun x e => by subst e; exact W8.rg rfl
      have hsz7 := Ch.le K7
      have ap : ∀ (Gs : Nat → Prop) v, (∀ n, Gs n → h7.size ≤ n) → Fam h8 Gs v → ∀ z, blkOf v = some z → ¬ z = h.size := fun Gs v hG F z hz e => by
        subst e
        obtain ⟨k, g, f⟩ := W8.fam
        have := hG _ (F _ k hz g)
        have := W7.lt (Ch.wf K7)
        omega
      simp only [wk, wt, wl, ↓reduceIte, Nat.reduceEqDiff, Nat.reduceAdd, wz, pt, s9]
      refine hX _ _ ?_
      refine ⟨blankG b.R b.C, cv, _, h.size, h.size + 1, h4.size, (by first | rfl | (simp only [wk, wt, wl, ↓reduceIte, Nat.reduceEqDiff, Nat.reduceAdd, wz]; done) | (simp only [wk, wt, wl, ↓reduceIte, Nat.reduceEqDiff, Nat.reduceAdd, wz]; rfl) | (simp only [wk, wt, wl, ↓reduceIte, Nat.reduceEqDiff, Nat.reduceAdd, wz, pt]; done) | (simp only [wk, wt, wl, ↓reduceIte, Nat.reduceEqDiff, Nat.reduceAdd, wz, pt]; rfl)), (by first | rfl | (simp only [wk, wt, wl, ↓reduceIte, Nat.reduceEqDiff, Nat.reduceAdd, wz]; done) | (simp only [wk, wt, wl, ↓reduceIte, Nat.reduceEqDiff, Nat.reduceAdd, wz]; rfl) | (simp only [wk, wt, wl, ↓reduceIte, Nat.reduceEqDiff, Nat.reduceAdd, wz, pt]; done) | (simp only [wk, wt, wl, ↓reduceIte, Nat.reduceEqDiff, Nat.reduceAdd, wz, pt]; rfl)), (by first | rfl | (simp only [wk, wt, wl, ↓reduceIte, Nat.reduceEqDiff, Nat.reduceAdd, wz]; done) | (simp only [wk, wt, wl, ↓reduceIte, Nat.reduceEqDiff, Nat.reduceAdd, wz]; rfl) | (simp only [wk, wt, wl, ↓reduceIte, Nat.reduceEqDiff, Nat.reduceAdd, wz, pt]; done) | (simp only [wk, wt, wl, ↓reduceIte, Nat.reduceEqDiff, Nat.reduceAdd, wz, pt]; rfl)), K8.step C9 (fun y e => by omega), V9, Ch.var (Ch.wf K8) C9 X8 (by omega), GR.apart GP8 C9 (ap _ cv (fun n e => by omega) F8) (fun v F => ap _ v (fun n e => e.1) F), hlenB, txb_blank, P8.aside (Ch.wf K8) D9 (fun n e => by omega), by omega, by omega, hq, ?_, by simp [hideL, wipesL], by simp, by simp⟩
      unfold emitL
      rw [if_neg hne, if_neg hfit]
      rfl
    have d2 : decide (¬ a.R = b.R) = false := decide_eq_false (fun e => e cR)
    by_cases cC : a.C = b.C
    case neg =>
      have hfit : ¬ (wholeB a = true ∧ a.R = b.R ∧ a.C = b.C) := fun e => cC e.2.2
      have d3 : decide (¬ a.C = b.C) = true := decide_eq_true cC
      simp only [wk, wt, wl, ↓reduceIte, Nat.reduceEqDiff, Nat.reduceAdd, wz, Bool.not_true, pt, z0, y0, d2, z1, y1, d3]
      simp only [wk, wt, wl, ↓reduceIte, Nat.reduceEqDiff, Nat.reduceAdd, wz, pt, litWipe]
      refine (add_ok P6 (Ch.le K6) wipes_B (by decide) (by simp [hideL, wipesL])).use ?_
      rintro _ h7 ⟨P7, C7⟩
      have K7 := K6.step C7 fun y hy => hy.2
      have W7 := Ch.varO (Ch.wf K6) C7 Z1 (by omega)
      have X7 := Ch.varO (Ch.wf K6) C7 Z2 (by omega)
      obtain ⟨x0, x1, _⟩ := grid_load X7
      simp only [wk, wt, wl, ↓reduceIte, Nat.reduceEqDiff, Nat.reduceAdd, wz, pt, x0, x1]
      refine blankG_ok.use ?_
      rintro _ h8 ⟨cb, ps, rfl, GP8, F8, hcb, K78⟩
      have W8 := Keeps.var (Ch.wf K7) K78 W7
      have X8 := Keeps.var (Ch.wf K7) K78 X7
      have P8 := P7.keeps (Ch.wf K7) K78
      have K8 := K7.trans K78
      rw [mV_blank]
      generalize hcv : Value.slice (some ⟨cb, 0, none⟩) (blankL b.R b.C).length ((blankL b.R b.C).length + 1) = cv at *
      have ocv : one cv = true := by rw [← hcv]; rfl
      obtain ⟨h9, s9, V9, C9, z9⟩ := W8.store (P := prog) (t := 24) (v := mV (blankG b.R b.C) cv) (i := 0) (Ch.wf K8) asz24 (by simp [Value.cells, mV, mC]) (by simp [Value.cells, mV, mC, one_cells ocv, ocv, one_int])
      have e9 : over (mC a va) 0 (mV (blankG b.R b.C) cv).cells.toList = mC (blankG b.R b.C) cv := by
        rw [over_all (by simp [Value.cells, mV, mC])]; simp [Value.cells, mV, mC, one_cells ocv]
      rw [e9] at V9
      have D9 : Ch (Rg (fun n => n = h.size) h8) h8 h9 := C9.mono fun x e => by subst e; exact W8.rg rfl
      have hsz7 := Ch.le K7
      have ap : ∀ (Gs : Nat → Prop) v, (∀ n, Gs n → h7.size ≤ n) → Fam h8 Gs v → ∀ z, blkOf v = some z → ¬ z = h.size := fun Gs v hG F z hz e => by
        subst e
        obtain ⟨k, g, f⟩ := W8.fam
        have := hG _ (F _ k hz g)
        have := W7.lt (Ch.wf K7)
        omega
      simp only [wk, wt, wl, ↓reduceIte, Nat.reduceEqDiff, Nat.reduceAdd, wz, pt, s9]
      refine hX _ _ ?_
      refine ⟨blankG b.R b.C, cv, _, h.size, h.size + 1, h4.size, (by first | rfl | (simp only [wk, wt, wl, ↓reduceIte, Nat.reduceEqDiff, Nat.reduceAdd, wz]; done) | (simp only [wk, wt, wl, ↓reduceIte, Nat.reduceEqDiff, Nat.reduceAdd, wz]; rfl) | (simp only [wk, wt, wl, ↓reduceIte, Nat.reduceEqDiff, Nat.reduceAdd, wz, pt]; done) | (simp only [wk, wt, wl, ↓reduceIte, Nat.reduceEqDiff, Nat.reduceAdd, wz, pt]; rfl)), (by first | rfl | (simp only [wk, wt, wl, ↓reduceIte, Nat.reduceEqDiff, Nat.reduceAdd, wz]; done) | (simp only [wk, wt, wl, ↓reduceIte, Nat.reduceEqDiff, Nat.reduceAdd, wz]; rfl) | (simp only [wk, wt, wl, ↓reduceIte, Nat.reduceEqDiff, Nat.reduceAdd, wz, pt]; done) | (simp only [wk, wt, wl, ↓reduceIte, Nat.reduceEqDiff, Nat.reduceAdd, wz, pt]; rfl)), (by first | rfl | (simp only [wk, wt, wl, ↓reduceIte, Nat.reduceEqDiff, Nat.reduceAdd, wz]; done) | (simp only [wk, wt, wl, ↓reduceIte, Nat.reduceEqDiff, Nat.reduceAdd, wz]; rfl) | (simp only [wk, wt, wl, ↓reduceIte, Nat.reduceEqDiff, Nat.reduceAdd, wz, pt]; done) | (simp only [wk, wt, wl, ↓reduceIte, Nat.reduceEqDiff, Nat.reduceAdd, wz, pt]; rfl)), K8.step C9 (fun y e => by omega), V9, Ch.var (Ch.wf K8) C9 X8 (by omega), GR.apart GP8 C9 (ap _ cv (fun n e => by omega) F8) (fun v F => ap _ v (fun n e => e.1) F), hlenB, txb_blank, P8.aside (Ch.wf K8) D9 (fun n e => by omega), by omega, by omega, hq, ?_, by simp [hideL, wipesL], by simp, by simp⟩
      unfold emitL
      rw [if_neg hne, if_neg hfit]
      rfl
    have d3 : decide (¬ a.C = b.C) = false := decide_eq_false (fun e => e cC)
    have hfit : wholeB a = true ∧ a.R = b.R ∧ a.C = b.C := ⟨hqa, cR, cC⟩
    simp only [wk, wt, wl, ↓reduceIte, Nat.reduceEqDiff, Nat.reduceAdd, wz, Bool.not_true, pt, z0, y0, d2, z1, y1, d3, z5, y5]
    refine (moved_ok (A.keeps K6) (Bv.keeps K6) (by omega) Ta.b).use ?_
    rintro _ h7 ⟨rfl, K67⟩
    have K7 := K6.trans K67
    have W7 := Keeps.var (Ch.wf K6) K67 Z1
    have X7 := Keeps.var (Ch.wf K6) K67 Z2
    obtain ⟨_, x1, _, x3, x4, _⟩ := grid_load X7
    by_cases cm : ({ a with y := b.y, x := b.x } : GM) = b
    · have d4 := decide_eq_true cm
      have he : emitL a b = placeL (b.y * b.C + b.x) b.C := by
        unfold emitL
        rw [if_neg hne, if_pos hfit, if_pos cm]
      obtain ⟨c1, c2, c3⟩ := cur_div hq
      have hyC : b.y * b.C ≤ 500 * b.C := Int.mul_le_mul_of_nonneg_right (by omega) (by omega)
      have hyC0 : 0 ≤ b.y * b.C := Int.mul_nonneg hy.1 (by omega)
      have w1 : IntKind.i64.wrap (b.y * b.C) = b.y * b.C := IntWalk.i64_in _ (by omega)
      have w2 : IntKind.i64.wrap (b.y * b.C + b.x) = b.y * b.C + b.x := IntWalk.i64_in _ (by omega)
      simp only [wk, wt, wl, ↓reduceIte, Nat.reduceEqDiff, Nat.reduceAdd, wz, d4, pt, x1, x3, x4, w1, w2]
      refine (place_ok (Gt0.keeps K7) c3 (by omega) (by rw [c1]; omega)).use_pure ?_
      obtain ⟨cs1, cs2⟩ := convS (h := h7) (place_cur_B hq)
      simp only [wk, wt, wl, ↓reduceIte, Nat.reduceEqDiff, Nat.reduceAdd, wz, cs1, cs2]
      have N8 := Keeps.new (Ch.wf K7) 5 ((placeL (b.y * b.C + b.x) b.C).map (Value.int .u8))
      rw [he]
      exact ⟨Rd.new (Ch.wf K7) asz5 (by simp), (fun z e => by cases e; exact Ch.le K7), K7.trans N8⟩
    · have d4 := decide_eq_false cm
      simp only [wk, wt, wl, ↓reduceIte, Nat.reduceEqDiff, Nat.reduceAdd, wz, d4, pt]
      have hll : a.l.length = b.l.length := by
        have := (whole_of hqa).2.2.1
        rw [cR, cC] at this
        omega
      refine hX _ _ ?_
      refine ⟨a, va, _, h.size, h.size + 1, h4.size, (by first | rfl | (simp only [wk, wt, wl, ↓reduceIte, Nat.reduceEqDiff, Nat.reduceAdd, wz]; done) | (simp only [wk, wt, wl, ↓reduceIte, Nat.reduceEqDiff, Nat.reduceAdd, wz]; rfl) | (simp only [wk, wt, wl, ↓reduceIte, Nat.reduceEqDiff, Nat.reduceAdd, wz, pt]; done) | (simp only [wk, wt, wl, ↓reduceIte, Nat.reduceEqDiff, Nat.reduceAdd, wz, pt]; rfl)), (by first | rfl | (simp only [wk, wt, wl, ↓reduceIte, Nat.reduceEqDiff, Nat.reduceAdd, wz]; done) | (simp only [wk, wt, wl, ↓reduceIte, Nat.reduceEqDiff, Nat.reduceAdd, wz]; rfl) | (simp only [wk, wt, wl, ↓reduceIte, Nat.reduceEqDiff, Nat.reduceAdd, wz, pt]; done) | (simp only [wk, wt, wl, ↓reduceIte, Nat.reduceEqDiff, Nat.reduceAdd, wz, pt]; rfl)), (by first | rfl | (simp only [wk, wt, wl, ↓reduceIte, Nat.reduceEqDiff, Nat.reduceAdd, wz]; done) | (simp only [wk, wt, wl, ↓reduceIte, Nat.reduceEqDiff, Nat.reduceAdd, wz]; rfl) | (simp only [wk, wt, wl, ↓reduceIte, Nat.reduceEqDiff, Nat.reduceAdd, wz, pt]; done) | (simp only [wk, wt, wl, ↓reduceIte, Nat.reduceEqDiff, Nat.reduceAdd, wz, pt]; rfl)), K7, W7, X7, A.keeps K7, hll, Ta.b, P6.keeps (Ch.wf K6) K67, by omega, by omega, hq, ?_, by simp [hideL], by simp, by simp⟩
      unfold emitL
      rw [if_neg hne, if_pos hfit, if_neg cm]
      rfl
  · rintro tm hh ⟨a', va', O, b2, b3, o, t2, t3, t5, K, V2, V3, A', hll, Ta', P, hbo, hb3, hq, he, hOb, hOp, hOp2⟩
    simp only [tailC]
    have B' := Bv.keeps K
    obtain ⟨_, _, _, _, _, q5⟩ := grid_load V2
    obtain ⟨_, _, _, _, _, r5⟩ := grid_load V3
    obtain ⟨hr, hc, hN, hy, hx, _⟩ := whole_of hq
    have RQ := rowQ_of hq
    have hbd : b.R * b.C ≤ 500 * b.C := Int.mul_le_mul_of_nonneg_right hr.2 (by omega)
    have h0b : ∀ i, bareB b.l i = true → 1 ≤ i := fun i e => by
      obtain ⟨c, e1, e2⟩ := bare_of e
      obtain ⟨_, j, d, e3, _⟩ := RQ.emp i c e1 e2
      omega
    have hsz := Ch.le K
    have l3 := V3.lt (Ch.wf K)
    simp only [wk, wt, wl, ↓reduceIte, Nat.reduceEqDiff, Nat.reduceAdd, wz, t2, t3, pt, q5, r5]
    refine (changed_ok A' B' hll (by omega) Ta' h0b).use ?_
    rintro _ h5 ⟨q, pv, l5, rfl, hq1, hq2, Q5, hp5, K5⟩
    obtain ⟨S, hS⟩ : ∃ S, S = piecesL a'.l b.l b.l.length := ⟨_, rfl⟩
    rw [← hS] at hp5
    have asc : S.Pairwise fun p q => p.1 < q.1 := by rw [hS]; exact pieces_asc h0b _
    have PS : PI a'.l b.l b.l.length S := by rw [hS]; exact pieces_PI h0b _
    have told : S.flatMap rngL = toldL a'.l b.l := by rw [hS]; exact pieces_told h0b
    have hSl : S.length ≤ b.l.length := by rw [hS]; exact pieces_len _
    clear hS
    have S5 : SE h b vb b3 o q (fun n => hh.size ≤ n ∧ n < h5.size ∧ n ≠ q) (fun n => o ≤ n ∧ ¬ (hh.size ≤ n ∧ n < h5.size)) h5 O pv l5 :=
      ⟨K.trans K5, Keeps.var (Ch.wf K) K5 V3, P.less (Ch.wf K) K5 (Nat.le_refl _) (Nat.le_refl _), Q5, neg_apt hbo ⟨hq1, hq2⟩, ⟨by omega, fun e => by omega⟩, ⟨by omega, fun n e => by omega⟩⟩
    have hOs : ∀ n, (fun n => o ≤ n ∧ ¬ (hh.size ≤ n ∧ n < h5.size)) n → h.size ≤ n := fun n e => by
      have := e.1
      omega
    generalize (fun n => hh.size ≤ n ∧ n < h5.size ∧ n ≠ q) = Fs at *
    generalize (fun n => o ≤ n ∧ ¬ (hh.size ≤ n ∧ n < h5.size)) = Os at *
    have concP : prog.concrete 53 = true := by kernel_rfl
    simp only [wk, wt, wl, ↓reduceIte, Nat.reduceEqDiff, Nat.reduceAdd, wz, pt, concP]
    have hl5 := hp5.length_eq
    refine (init_ok S5.pq (by omega)).use ?_
    rintro _ h6 ⟨⟨l6, Q6, hp6, hH6⟩, C6⟩
    have S6 := S5.pqs (C6.mono fun z r => r.mono fun n e => .inl e) Q6
    have hl6 := hp6.length_eq
    rw [← hl6] at hH6
    simp only [wk, wt, wl, ↓reduceIte, Nat.reduceEqDiff, Nat.reduceAdd, wz]
    refine W_loop (fun tm hh => tm 3 = pt b3 ∧ tm 5 = pt o ∧ tm 6 = pt q ∧ ∃ (k e : Nat) (O' : OX) (pv : Value) (l : List (Int × Int)), SE h b vb b3 o q Fs Os hh O' pv l ∧ l.Perm (S.drop k) ∧ HeapF l l.length 0 ∧ O' = ((S.take k).flatMap rngL).foldl (cellO b) O ∧ e ≤ b.l.length ∧ O'.b.length ≤ 10 + 28 * e ∧ -1 ≤ O'.pos ∧ O'.pos ≤ 10000000 ∧ ∀ p, p ∈ S.drop k → (e : Int) ≤ p.1) (fun tm hh => qlen hh q)
      ⟨(by first | rfl | (simp only [wk, wt, wl, ↓reduceIte, Nat.reduceEqDiff, Nat.reduceAdd, wz]; done) | (simp only [wk, wt, wl, ↓reduceIte, Nat.reduceEqDiff, Nat.reduceAdd, wz]; rfl) | (simp only [wk, wt, wl, ↓reduceIte, Nat.reduceEqDiff, Nat.reduceAdd, wz, pt, t3]; done) | (simp only [wk, wt, wl, ↓reduceIte, Nat.reduceEqDiff, Nat.reduceAdd, wz, pt, t3]; rfl)), (by first | rfl | (simp only [wk, wt, wl, ↓reduceIte, Nat.reduceEqDiff, Nat.reduceAdd, wz]; done) | (simp only [wk, wt, wl, ↓reduceIte, Nat.reduceEqDiff, Nat.reduceAdd, wz]; rfl) | (simp only [wk, wt, wl, ↓reduceIte, Nat.reduceEqDiff, Nat.reduceAdd, wz, pt, t5]; done) | (simp only [wk, wt, wl, ↓reduceIte, Nat.reduceEqDiff, Nat.reduceAdd, wz, pt, t5]; rfl)), (by first | rfl | (simp only [wk, wt, wl, ↓reduceIte, Nat.reduceEqDiff, Nat.reduceAdd, wz]; done) | (simp only [wk, wt, wl, ↓reduceIte, Nat.reduceEqDiff, Nat.reduceAdd, wz]; rfl) | (simp only [wk, wt, wl, ↓reduceIte, Nat.reduceEqDiff, Nat.reduceAdd, wz, pt]; done) | (simp only [wk, wt, wl, ↓reduceIte, Nat.reduceEqDiff, Nat.reduceAdd, wz, pt]; rfl)), 0, 0, O, pv, l6, S6, by rw [List.drop_zero]; exact hp6.trans hp5, hH6, rfl, by omega, by omega, hOp, hOp2, fun p hp => by have := PS.ok p (by simpa using hp); omega⟩ ?_
    clear S6 S5 Q6 C6 Q5 hH6 t2 t3 t5 q5 r5
    clear hp6 hp5 hl6 hl5 l6 h6
    rintro tm h6 ⟨t3, t5, t6, k, e, O', pv, l, S6, hp, hH, hO', heb, hOb', hOp', hOp2', hnext⟩
    have hpl := hp.length_eq
    rw [List.length_drop] at hpl
    have H6 := Ch.wf S6.k
    simp only [wk, wt, wl, ↓reduceIte, Nat.reduceEqDiff, Nat.reduceAdd, wz, t6, pt, nilV_ptr, S6.pq.load]
    refine (lenP_ok S6.pq.row).use_pure ?_
    obtain ⟨x0, x1, x2, x3, x4, _⟩ := grid_load S6.v3
    by_cases c0 : (0 : Int) < (l.length : Int)
    case neg =>
      have d0 := decide_eq_false c0
      have hSk : S.take k = S := List.take_of_length_le (by omega)
      have hbody : O' = bodyO a' b O := by rw [hO', hSk, told]; rfl
      obtain ⟨c1, c2, c3⟩ := cur_div hq
      have hyC : b.y * b.C ≤ 500 * b.C := Int.mul_le_mul_of_nonneg_right (by omega) (by omega)
      have hyC0 : 0 ≤ b.y * b.C := Int.mul_nonneg hy.1 (by omega)
      have w1 : IntKind.i64.wrap (b.y * b.C) = b.y * b.C := IntWalk.i64_in _ (by omega)
      have w2 : IntKind.i64.wrap (b.y * b.C + b.x) = b.y * b.C + b.x := IntWalk.i64_in _ (by omega)
      simp only [wk, wt, wl, ↓reduceIte, Nat.reduceEqDiff, Nat.reduceAdd, wz, d0, t3, t5, t6]
      refine (paint_ok (a := 0) S6.out (Ch.le S6.k) (by omega)).use ?_
      rintro _ h7 ⟨P7, C7⟩
      have S7 := S6.outs C7 P7
      obtain ⟨_, y1, _, y3, y4, _⟩ := grid_load S7.v3
      have pb : (paintO O' 0).b.length ≤ O'.b.length + 4 := by
        unfold paintO
        split
        · omega
        · simp only; rw [List.length_append]; split <;> simp
      have pl := place_len (i := b.y * b.C + b.x) (C := b.C)
      simp only [wk, wt, wl, ↓reduceIte, Nat.reduceEqDiff, Nat.reduceAdd, wz, pt, t3, t5, y1, y3, y4, w1, w2]
      refine (place_ok (C := b.C) (Gt0.keeps S7.k) c3 (by omega) (by rw [c1]; omega)).use_pure ?_
      simp only [wk, wt, wl, ↓reduceIte, Nat.reduceEqDiff, Nat.reduceAdd, wz, t3, t5]
      refine (add_ok (s := placeL (b.y * b.C + b.x) b.C) S7.out (Ch.le S7.k) (place_cur_B hq) (by omega) (by omega)).use ?_
      rintro _ h8 ⟨P8, C8⟩
      have S8 := S7.outs C8 P8
      have B3 : ∀ x : Int, x ∈ ([27, 91, 63, 50, 53, 104] : List Int) → isB x := by intro x hx; simp at hx; rcases hx with rfl | rfl | rfl | rfl | rfl | rfl <;> simp [isB]
      simp only [wk, wt, wl, ↓reduceIte, Nat.reduceEqDiff, Nat.reduceAdd, wz, litShow, t5]
      refine (add_ok S8.out (Ch.le S8.k) B3 (by simp) (by simp only [List.length_append, List.length_cons, List.length_nil]; omega)).use ?_
      rintro _ h9 ⟨P9, C9⟩
      have S9 := S8.outs C9 P9
      obtain ⟨bv, Q9⟩ := S9.out
      obtain ⟨l9, _⟩ := Q9.loads
      simp only [wk, wt, wl, ↓reduceIte, Nat.reduceEqDiff, Nat.reduceAdd, wz, pt, t5, nilV_ptr, l9]
      have ht : tailL b (bodyO a' b O) = (paintO O' 0).b ++ placeL (b.y * b.C + b.x) b.C ++ [27, 91, 63, 50, 53, 104] := by unfold tailL; rw [hbody]
      rw [he, ht]
      refine ⟨Q9.own.1, fun z hz => ?_, S9.k⟩
      obtain ⟨_, k9, g9, _⟩ := Rd.blk_lt Q9.own.1 hz
      have := (Ch.wf S9.k).2 z k9 g9
      have := hOs _ (Q9.fam z k9 hz g9)
      omega
    have d0 := decide_eq_true c0
    simp only [wk, wt, wl, ↓reduceIte, Nat.reduceEqDiff, Nat.reduceAdd, wz, d0, t3, t5, t6, pt, concP]
    refine (pop_ok S6.pq (by omega) (by omega) hH).use ?_
    rintro _ h7 ⟨⟨x, pv', l', rfl, Q7, hp7, hH7, hm7⟩, C7⟩
    have S7 := S6.pqs C7 Q7
    obtain ⟨hk, hxk, hp'⟩ := pop_is asc (hp7.symm.trans hp) (fun y hy => hm7 y (hp7.mem_iff.2 hy))
    have hxS := PS.ok x (List.mem_of_getElem? hxk)
    obtain ⟨h8, s8, V8, K8, z8⟩ := arr_var (x := x.1) (y := x.2) (Ch.wf S7.k)
    have S8 := S7.less K8 (a := h7.size) (b := h7.size + 1) (Nat.le_refl _) (by omega)
    have I0 : aindexAddr prog 57 (.pointer (some ⟨h7.size, 0, none⟩)) (.int .i64 0) = some (.pointer (some ⟨h7.size, 0 + 0, none⟩)) := arr_index underlying57 asz3 (by omega) (by omega)
    have I1 : aindexAddr prog 57 (.pointer (some ⟨h7.size, 0, none⟩)) (.int .i64 1) = some (.pointer (some ⟨h7.size, 0 + 1, none⟩)) := arr_index underlying57 asz3 (by omega) (by omega)
    have L0 : aload prog h8 3 ⟨h7.size, 0 + 0, none⟩ = some (.int .i64 x.1) := V8.load1 underlying3 rfl (i := 0)
    simp only [wk, wt, wl, ↓reduceIte, Nat.reduceEqDiff, Nat.reduceAdd, wz, pt, assertV, underlying57, s8, Bool.not_true, I0, L0]
    have hx0 : ((x.1.toNat : Nat) : Int) = x.1 := by omega
    have he1 := hnext x (by rw [List.drop_eq_getElem_cons hk]; rw [List.getElem?_eq_getElem hk] at hxk; cases hxk; exact List.mem_cons_self)
    refine W_loop (fun tm hh => tm 3 = pt b3 ∧ tm 5 = pt o ∧ tm 6 = pt q ∧ tm 7 = pt h7.size ∧ ∃ (i : Nat) (O2 : OX), tm 9 = .int .i64 (i : Int) ∧ x.1 ≤ i ∧ (i : Int) ≤ x.2 ∧ SE h b vb b3 o q Fs (fun n => Os n ∧ ¬ (h7.size ≤ n ∧ n < h7.size + 1)) hh O2 pv' l' ∧ Var hh h7.size [.int .i64 x.1, .int .i64 x.2] ∧
        O2 = (List.range' x.1.toNat (i - x.1.toNat)).foldl (cellO b) O' ∧ O2.b.length ≤ 10 + 28 * i ∧ -1 ≤ O2.pos ∧ O2.pos ≤ 10000000) (fun tm hh => (x.2 - intOf (tm 9)).toNat)
      ⟨(by first | rfl | (simp only [wk, wt, wl, ↓reduceIte, Nat.reduceEqDiff, Nat.reduceAdd, wz]; done) | (simp only [wk, wt, wl, ↓reduceIte, Nat.reduceEqDiff, Nat.reduceAdd, wz]; rfl) | (simp only [wk, wt, wl, ↓reduceIte, Nat.reduceEqDiff, Nat.reduceAdd, wz, pt, t3]; done) | (simp only [wk, wt, wl, ↓reduceIte, Nat.reduceEqDiff, Nat.reduceAdd, wz, pt, t3]; rfl)), (by first | rfl | (simp only [wk, wt, wl, ↓reduceIte, Nat.reduceEqDiff, Nat.reduceAdd, wz]; done) | (simp only [wk, wt, wl, ↓reduceIte, Nat.reduceEqDiff, Nat.reduceAdd, wz]; rfl) | (simp only [wk, wt, wl, ↓reduceIte, Nat.reduceEqDiff, Nat.reduceAdd, wz, pt, t5]; done) | (simp only [wk, wt, wl, ↓reduceIte, Nat.reduceEqDiff, Nat.reduceAdd, wz, pt, t5]; rfl)), (by first | rfl | (simp only [wk, wt, wl, ↓reduceIte, Nat.reduceEqDiff, Nat.reduceAdd, wz]; done) | (simp only [wk, wt, wl, ↓reduceIte, Nat.reduceEqDiff, Nat.reduceAdd, wz]; rfl) | (simp only [wk, wt, wl, ↓reduceIte, Nat.reduceEqDiff, Nat.reduceAdd, wz, pt, t6]; done) | (simp only [wk, wt, wl, ↓reduceIte, Nat.reduceEqDiff, Nat.reduceAdd, wz, pt, t6]; rfl)), (by first | rfl | (simp only [wk, wt, wl, ↓reduceIte, Nat.reduceEqDiff, Nat.reduceAdd, wz]; done) | (simp only [wk, wt, wl, ↓reduceIte, Nat.reduceEqDiff, Nat.reduceAdd, wz]; rfl) | (simp only [wk, wt, wl, ↓reduceIte, Nat.reduceEqDiff, Nat.reduceAdd, wz, pt]; done) | (simp only [wk, wt, wl, ↓reduceIte, Nat.reduceEqDiff, Nat.reduceAdd, wz, pt]; rfl)), x.1.toNat, O', (by first | rfl | (simp only [wk, wt, wl, ↓reduceIte, Nat.reduceEqDiff, Nat.reduceAdd, wz]; done) | (simp only [wk, wt, wl, ↓reduceIte, Nat.reduceEqDiff, Nat.reduceAdd, wz]; rfl) | (simp only [wk, wt, wl, ↓reduceIte, Nat.reduceEqDiff, Nat.reduceAdd, wz, hx0]; done) | (simp only [wk, wt, wl, ↓reduceIte, Nat.reduceEqDiff, Nat.reduceAdd, wz, hx0]; rfl)), by omega, by omega, S8, V8, by rw [Nat.sub_self]; rfl, by omega, hOp', hOp2'⟩ ?_
    have S6k := S6.k
    have ap6 := S6.ap
    have ql6 := S6.pq.qlen
    have hg : 1 < h.size := by
      obtain ⟨_, _, hg, _⟩ := Gt0
      exact hg
    clear S8 V8 K8 s8 z8 C7 Q7 S7 hm7 hp7 L0 S6 x0 x1 x2 x3 x4 t3 t5 t6
    rintro tm h9 ⟨t3, t5, t6, t7, i, O2, t9, hi1, hi2, S9, V9, hO2, hb2, hp2, hp3⟩
    have L1 : aload prog h9 3 ⟨h7.size, 0 + 1, none⟩ = some (.int .i64 x.2) := V9.load1 underlying3 rfl (i := 1)
    have H9 := Ch.wf S9.k
    by_cases ci : (i : Int) < x.2
    case neg =>
      have d1 := decide_eq_false ci
      have ei : (i : Int) = x.2 := by omega
      have hl' := hp'.length_eq
      rw [List.length_drop] at hl'
      simp only [wk, wt, wl, ↓reduceIte, Nat.reduceEqDiff, Nat.reduceAdd, wz, pt, t3, t5, t6, t7, t9, I1, L1, d1]
      refine ⟨⟨k + 1, i, O2, pv', l', S9.more ap6 (fun n e => e.1), hp', hH7, ?_, by omega, hb2, hp2, hp3, fun p hp => ?_⟩, by rw [S9.pq.qlen, ql6]; omega⟩
      · rw [take_snoc hxk, List.flatMap_append, List.foldl_append, ← hO', hO2, show i - x.1.toNat = (x.2 - x.1).toNat by omega]
        simp [rngL]
      · have sep : (S.drop k).Pairwise fun p q => p.2 < q.1 := PS.sep.sublist (List.drop_sublist k S)
        rw [List.drop_eq_getElem_cons hk, List.pairwise_cons] at sep
        rw [List.getElem?_eq_getElem hk] at hxk
        cases hxk
        have := sep.1 p hp
        omega
    have d1 := decide_eq_true ci
    obtain ⟨c, hci⟩ : ∃ c, b.l[i]? = some c := ⟨_, List.getElem?_eq_getElem (by omega)⟩
    obtain ⟨tv, X, LX, IX⟩ := Bv.atK S9.k hci
    have X9 := X.keeps S9.k
    obtain ⟨x0, x1, x2, _⟩ := grid_load S9.v3
    obtain ⟨h10, s10, V10, K10, z10⟩ := cell_var (tv := tv) (c := c) H9 (Rd.one X)
    have S10 := S9.less K10 (a := h9.size) (b := h9.size + 1) (Nat.le_refl _) (by omega)
    have W10 := Keeps.var H9 K10 V9
    obtain ⟨m0, m1, _⟩ := cell_load V10
    have wi : IntKind.i64.wrap ((i : Int) + 1) = ((i + 1 : Nat) : Int) := by rw [IntWalk.i64_in _ (by omega)]; omega
    simp only [wk, wt, wl, ↓reduceIte, Nat.reduceEqDiff, Nat.reduceAdd, wz, pt, t3, t5, t6, t7, t9, I1, L1, d1, x2, IX, LX, s10, m0, X9.len underlying43]
    obtain ⟨y0, y1, y2, _⟩ := grid_load S10.v3
    have snoc := range_snoc (s := x.1.toNat) (i := i) (by omega)
    have hcell : (List.range' x.1.toNat (i + 1 - x.1.toNat)).foldl (cellO b) O' = cellO b O2 i := by
      rw [snoc, List.foldl_append, ← hO2]; rfl
    have hcb := cellO_bd (O := O2) hq (show i < b.l.length by omega) ⟨hp2, hp3⟩
    by_cases et0 : c.tx = []
    · have d2 : decide ((c.tx.length : Int) = 0) = true := decide_eq_true (by rw [et0]; rfl)
      have hsame : cellO b O2 i = O2 := by unfold cellO; rw [hci]; simp only [et0]
      simp only [wk, wt, wl, ↓reduceIte, Nat.reduceEqDiff, Nat.reduceAdd, wz, pt, t3, t5, t6, t7, t9, d2, wi, intOf_int]
      exact ⟨⟨i + 1, O2, rfl, by omega, by omega, S9.keeps K10, W10, by rw [hcell, hsame], by omega, hp2, hp3⟩, by omega⟩
    obtain ⟨r, m, et⟩ := List.exists_cons_of_ne_nil et0
    have hne := et0
    have d2 : decide ((c.tx.length : Int) = 0) = false := decide_eq_false (by rw [et]; simp; omega)
    obtain ⟨q1, q2⟩ := RQ.full i c hci hne
    obtain ⟨l1, l2, l3, l4, l5⟩ := let_of q1 et
    have wb := widthZ_le r
    have hiC := div_lt hc.1 (show (i : Int) < b.R * b.C by omega) (by omega)
    have hiL : (i : Int) < b.R * b.C := by omega
    have TX := Tb c (List.mem_of_getElem? hci)
    have H10 := Ch.wf S10.k
    have n7 : ¬ (fun n => (fun n => Os n ∧ ¬ (h7.size ≤ n ∧ n < h7.size + 1)) n ∧ ¬ (h9.size ≤ n ∧ n < h9.size + 1)) h7.size := fun e => e.1.2 ⟨Nat.le_refl _, by omega⟩
    have n9 : ¬ (fun n => (fun n => Os n ∧ ¬ (h7.size ≤ n ∧ n < h7.size + 1)) n ∧ ¬ (h9.size ≤ n ∧ n < h9.size + 1)) h9.size := fun e => e.2 ⟨Nat.le_refl _, by omega⟩
    have sub : ∀ n, (fun n => (fun n => Os n ∧ ¬ (h7.size ≤ n ∧ n < h7.size + 1)) n ∧ ¬ (h9.size ≤ n ∧ n < h9.size + 1)) n → (fun n => Os n ∧ ¬ (h7.size ≤ n ∧ n < h7.size + 1)) n := fun n e => e.1
    generalize (fun n => (fun n => Os n ∧ ¬ (h7.size ≤ n ∧ n < h7.size + 1)) n ∧ ¬ (h9.size ≤ n ∧ n < h9.size + 1)) = Os10 at *
    simp only [wk, wt, wl, ↓reduceIte, Nat.reduceEqDiff, Nat.reduceAdd, wz, pt, t3, t5, t6, t7, t9, d2, y1]
    refine (goes_ok (i := (i : Int)) (C := b.C) S10.out (Gt0.keeps S10.k) (Ch.le S10.k) hg (by omega) (by omega) (by omega) (by omega) (by omega) (by omega)).use ?_
    rintro _ h11 ⟨P11, C11⟩
    have S11 := S10.outs C11 P11
    have W11 := Ch.varO H10 C11 W10 n7
    have V11 := Ch.varO H10 C11 V10 n9
    have H11 := Ch.wf S11.k
    obtain ⟨_, m1, _⟩ := cell_load V11
    have gb : (goesO O2 i b.C).b.length ≤ O2.b.length + 12 := by
      have pl := place_len (i := (i : Int)) (C := b.C)
      have fl := fwd_len (n := (i : Int) - O2.pos)
      unfold goesO
      split
      · omega
      · simp only; rw [List.length_append]; split <;> omega
    simp only [wk, wt, wl, ↓reduceIte, Nat.reduceEqDiff, Nat.reduceAdd, wz, pt, t3, t5, t6, t7, t9, m1]
    refine (paint_ok (a := c.ar) S11.out (Ch.le S11.k) (by omega)).use ?_
    rintro _ h12 ⟨P12, C12⟩
    have S12 := S11.outs C12 P12
    have W12 := Ch.varO H11 C12 W11 n7
    have V12 := Ch.varO H11 C12 V11 n9
    have H12 := Ch.wf S12.k
    obtain ⟨m0', _⟩ := cell_load V12
    obtain ⟨bv, Q12⟩ := S12.out
    obtain ⟨l12, _⟩ := Q12.loads
    have pbb : (paintO (goesO O2 i b.C) c.ar).b.length ≤ (goesO O2 i b.C).b.length + 4 := by
      unfold paintO
      split
      · omega
      · simp only; rw [List.length_append]; split <;> simp
    simp only [wk, wt, wl, ↓reduceIte, Nat.reduceEqDiff, Nat.reduceAdd, wz, pt, t3, t5, t6, t7, t9]
    refine adraw_order [(0, false), (1, false), (2, false), (3, false), (4, false), (5, false), (6, false), (7, true), (8, false), (9, false), (10, false), (11, false)] mixed (by kernel_rfl) (by kernel_rfl) (by kernel_rfl) (by with_reducible repeat (first | exact PF_retK | refine PF_thenK ?_ | refine PF_blockK ?_)) ?_
    simp only [wk, wt, wl, ↓reduceIte, Nat.reduceEqDiff, Nat.reduceAdd, wz, dK_t, pt, nilV_ptr, t3, t5, t6, t7, t9, l12, m0']
    have X12 := X.keeps S12.k
    have hR : ∀ j, isR (c.tx.getD j 0) := fun j => by
      rw [List.getD_eq_getElem?_getD]
      cases e : c.tx[j]? with
      | none => show isR 0; unfold isR; omega
      | some y => exact TX.1 y (List.mem_of_getElem? e)
    have ec := encL_len c.tx
    have m3 : c.tx.length ≤ 3 := by rw [et, List.length_cons]; omega
    have ep : 0 < (encL c.tx).length := by
      have := lenZ_range (r := r)
      unfold lenZ at this
      rw [et]
      simp only [encL, List.flatMap_cons, List.length_append]
      omega
    have Q12b := S12.out
    refine (encode_ok X12 (by omega) hR).use ?_
    rintro v h13 ⟨OE, K13, hE⟩
    have S13 := S12.keeps K13
    have W13 := Keeps.var H12 K13 W12
    have V13 := Keeps.var H12 K13 V12
    have H13 := Ch.wf S13.k
    have Q13 := Q12.keeps H12 K13
    obtain ⟨l13, _⟩ := Q13.loads
    obtain ⟨v', h14, h15, e14, s15, Q15, C15, _, R14⟩ := Q13.more H13 (Ch.le S13.k) (t2 := 30) underlying30 rfl (Rd.news OE.1) ep (by omega)
    simp only [wk, wt, wl, ↓reduceIte, Nat.reduceEqDiff, Nat.reduceAdd, wz, dK_t, pt, nilV_ptr, t3, t5, t6, t7, t9, l12, l13, m0', e14, s15]
    refine ⟨K13.reads H12, ?_⟩
    have S15 := S13.outs C15 ⟨v', Q15⟩
    have W15 := Ch.varO H13 C15 W13 n7
    have V15 := Ch.varO H13 C15 V13 n9
    have H15 := Ch.wf S15.k
    obtain ⟨m0'', _⟩ := cell_load V15
    have X15 := X.keeps S15.k
    have IR := RdI.index X15 underlying43 asz21 (q := .i64) (i := 0) (by omega) (by rw [et, List.length_cons]; omega)
    have LR := RdI.at X15 (t := 21) underlying21 rfl (i := 0) (by rw [et, List.length_cons]; omega)
    have hr0 : c.tx.getD 0 0 = r := by rw [et]; rfl
    have hrR : isR r := by have := hR 0; rwa [hr0] at this
    rw [hr0] at LR
    have we1 : IntKind.i64.wrap ((i : Int) + widthZ r) = (i : Int) + widthZ r := IntWalk.i64_in _ (by omega)
    obtain ⟨h16, s16, Q16, C16⟩ := Q15.put H15 (i := 2) (z := (i : Int) + widthZ r) (O' := ⟨(paintO (goesO O2 i b.C) c.ar).b ++ encL c.tx, (paintO (goesO O2 i b.C) c.ar).attr, (i : Int) + widthZ r⟩) (by omega) rfl rfl
    have S16 := S15.outs C16 ⟨v', Q16⟩
    have W16 := Ch.varO H15 C16 W15 n7
    have H16 := Ch.wf S16.k
    obtain ⟨_, _, l16⟩ := Q16.loads
    obtain ⟨_, y16, _⟩ := grid_load S16.v3
    have RR := abin_rem (P := prog) (t := 3) (k := .i64) (x := (i : Int) + widthZ r) (y := b.C) (by omega)
    rw [Int.tmod_eq_emod_of_nonneg (by omega)] at RR
    have em0 := Int.emod_nonneg ((i : Int) + widthZ r) (show b.C ≠ 0 by omega)
    have em1 := Int.emod_lt_of_pos ((i : Int) + widthZ r) (show 0 < b.C by omega)
    have we2 : IntKind.i64.wrap (((i : Int) + widthZ r) % b.C) = ((i : Int) + widthZ r) % b.C := IntWalk.i64_in _ (by omega)
    simp only [wk, wt, wl, ↓reduceIte, Nat.reduceEqDiff, Nat.reduceAdd, wz, pt, nilV_ptr, t3, t5, t6, t7, t9, m0'', IR, LR, Int.toNat_zero]
    refine (width_ok hrR (G.keeps S15.k)).use_pure ?_
    simp only [wk, wt, wl, ↓reduceIte, Nat.reduceEqDiff, Nat.reduceAdd, wz, pt, nilV_ptr, t3, t5, t6, t7, t9, we1, s16]
    refine adraw_order [(0, false), (1, false), (2, false), (3, false), (4, false), (5, false), (6, false), (7, false)] mixed (by kernel_rfl) (by kernel_rfl) (by kernel_rfl) (by with_reducible repeat (first | exact PF_retK | refine PF_thenK ?_ | refine PF_blockK ?_)) ?_
    simp only [wk, wt, wl, ↓reduceIte, Nat.reduceEqDiff, Nat.reduceAdd, wz, dK_t, pt, nilV_ptr, t3, t5, t6, t7, t9, l16, y16, RR, we2]
    have hcO : cellO b O2 i = ⟨(paintO (goesO O2 i b.C) c.ar).b ++ encL c.tx, (paintO (goesO O2 i b.C) c.ar).attr, if ((i : Int) + widthZ r) % b.C = 0 then -1 else (i : Int) + widthZ r⟩ := by
      unfold cellO; rw [hci]; simp only [et]
    have hb3' := hcb.1
    have hb4 := hcb.2
    refine condK_dec (fun hz => ?_) (fun hz => ?_)
    · obtain ⟨h17, s17, Q17, C17⟩ := Q16.put H16 (i := 2) (z := -1) (O' := ⟨(paintO (goesO O2 i b.C) c.ar).b ++ encL c.tx, (paintO (goesO O2 i b.C) c.ar).attr, -1⟩) (by omega) rfl rfl
      have S17 := S16.outs C17 ⟨v', Q17⟩
      have W17 := Ch.varO H16 C17 W16 n7
      rw [if_pos hz] at hcO
      rw [← hcO] at S17
      simp only [wk, wt, wl, ↓reduceIte, Nat.reduceEqDiff, Nat.reduceAdd, wz, pt, nilV_ptr, t3, t5, t6, t7, t9, s17, wi, intOf_int]
      exact ⟨⟨i + 1, cellO b O2 i, rfl, by omega, by omega, S17.more S9.ap sub, W17, hcell.symm, by omega, hb4.1, hb4.2⟩, by omega⟩
    · rw [if_neg hz] at hcO
      rw [← hcO] at S16
      simp only [wk, wt, wl, ↓reduceIte, Nat.reduceEqDiff, Nat.reduceAdd, wz, pt, nilV_ptr, t3, t5, t6, t7, t9, wi, intOf_int]
      exact ⟨⟨i + 1, cellO b O2 i, rfl, by omega, by omega, S16.more S9.ap sub, W16, hcell.symm, by omega, hb4.1, hb4.2⟩, by omega⟩
end Go.Proofs.YthmpaddhmgnkbaaDoor.Am
end
section
/- The law's twin: a grid in memory of its own. -/
set_option linter.unusedSimpArgs false
set_option linter.unusedVariables false
set_option maxHeartbeats 8000000
set_option maxRecDepth 20000
namespace Go.Proofs.YthmpaddhmgnkbaaDoor.Am
open Go Go.RowKit Go.Proofs.Tryd
/-- Rows of different families. -/
def Dif (h : Heap) (v w : Value) : Prop := ∀ z z' k k', blkOf v = some z → blkOf w = some z' → h.get z = some k → h.get z' = some k' → k.fam ≠ k'.fam
theorem Dif.ch {h h' : Heap} {D : Nat → Prop} {v w : Value} (d : Dif h v w) (C : Ch D h h') (hv : ∀ z, blkOf v = some z → z < h.size) (hw : ∀ z, blkOf w = some z → z < h.size) : Dif h' v w := fun z z' k k' e e' g g' => by
  obtain ⟨k0, g0, q⟩ := C.2.2.2.2.1 z k (hv z e) g
  obtain ⟨k1, g1, q1⟩ := C.2.2.2.2.1 z' k' (hw z' e') g'
  rw [q, q1]
  exact d z z' k0 k1 e e' g0 g1
/-- May a row be written that is not empty? -/
def Wr (h : Heap) (p : PC) : Prop := p.2.tx ≠ [] → ∀ b, blkOf p.1 = some b → ∃ k, h.get b = some k ∧ k.ro = false
/-- A copy of cells: rows of its own, each text of another family. -/
structure TW (h0 h : Heap) (f0 : Nat) (cv : Value) (l : List Cel) (ps : List PC) : Prop where
  gp : GP h (fun n => h0.size ≤ n) (fun n => n = f0) cv l ps
  fc : Fam h (fun n => n = f0) cv
  f0 : h0.size ≤ f0 ∧ f0 < h.size
  hc : ∀ z, blkOf cv = some z → h0.size ≤ z
  hp : ∀ p, p ∈ ps → ∀ z, blkOf p.1 = some z → h0.size ≤ z
  wr : ∀ p, p ∈ ps → Wr h p
  di : ps.Pairwise fun p q => Dif h p.1 q.1
theorem TW.keeps {h0 h h' : Heap} {f0 : Nat} {cv : Value} {l : List Cel} {ps : List PC} (T : TW h0 h f0 cv l ps) (K : Keeps h h') : TW h0 h' f0 cv l ps :=
  ⟨T.gp.keeps K, T.fc.ch K T.gp.lt, ⟨T.f0.1, by have := Ch.le K; have := T.f0.2; omega⟩, T.hc, T.hp, fun p hp hne b e => by
    obtain ⟨k, g, r⟩ := T.wr p hp hne b e
    exact ⟨k, (K.at ((T.gp.rd p hp).blk_lt e).1).trans g, r⟩, T.di.imp_of_mem fun {p q} hp hq d => d.ch K (fun z e => ((T.gp.rd p hp).blk_lt e).1) fun z e => ((T.gp.rd q hq).blk_lt e).1⟩
theorem copyT {h : Heap} {tv : Value} {xs : List Int} (H : Wf h) (X : RdI prog h .i32 tv xs) (hl : xs.length ≤ 1000000000) : ∃ v' h', aappend prog (h.new 21 []) 43 43 (.slice (some ⟨h.size, 0, none⟩) 0 1) tv = some (v', h') ∧ RdI prog h' .i32 v' xs ∧ Keeps h h' ∧ (∀ z, blkOf v' = some z → h.size ≤ z) ∧ (xs ≠ [] → ∀ b, blkOf v' = some b → ∃ k, h'.get b = some k ∧ k.ro = false) := by
  have O0 : Own prog h.size (h.new 21 []) 1 (.slice (some ⟨h.size, 0, none⟩) 0 1) 0 [] := Own.new H (Nat.le_refl _) asz21 (by simp)
  have K1 := Keeps.new H 21 []
  obtain ⟨v2, h2, e2, O2, R2, C2, hv⟩ := O0.appendRd (P := prog) (Ch.wf K1) (Ch.le K1) underlying43 underlying43 rfl elem21 fits21 (by decide) (X.keeps K1) (by omega)
  have hR : RdI prog h2 .i32 v2 xs := by
    have := O2.1
    rw [Nat.zero_add, List.nil_append] at this
    simpa [RdI] using this
  refine ⟨v2, h2, e2, hR, K1.step C2 fun b hb => hb.2, fun z e => ?_, fun hne b e => ?_⟩
  · rcases hv with rfl | rfl | rfl
    · exact blk_new z e
    · cases e
    · exact Nat.le_of_succ_le (blk_new z e)
  · have hpos : 0 < xs.length := List.length_pos_iff.2 hne
    rcases hv with rfl | rfl | rfl
    · rcases hR.2 with ⟨q, _⟩ | ⟨b', o, c, k, q, _⟩
      · omega
      · exfalso
        injection q with _ q2
        omega
    · cases e
    · obtain ⟨bb, o, k, q, _, g1, g2, _⟩ := Own.third O2
      cases q
      cases e
      exact ⟨k, g1, g2⟩
theorem twin_ok {h : Heap} {gv : Value} {g : GM} (A : GR h gv g.l) (hl : g.l.length ≤ 1000000) (hT : TxR g.l) :
    ACalls prog 11 #[mV g gv] h (fun y h' => ∃ f0 cv ps, y = mV g cv ∧ TW h h' f0 cv g.l ps ∧ Keeps h h') := by
  refine acalls_of_W' func11 rfl (by kernel_rfl) (by kernel_rfl) (by simp [ntmps11]) ?_
  intro H
  have o1 := A.one
  have N1 := Keeps.new H 24 (mC g gv)
  have V1 := Var.new (e := 24) H (cs := mC g gv)
  have hz1 : (h.new 24 (mC g gv)).size = h.size + 1 := rfl
  have N2 := Keeps.new (Ch.wf N1) 24 [.int .i64 0, .int .i64 0, .slice none 0 0, .int .i64 0, .int .i64 0]
  have V2 := Var.new (e := 24) (Ch.wf N1) (cs := [.int .i64 0, .int .i64 0, .slice none 0 0, .int .i64 0, .int .i64 0])
  rw [hz1] at V2
  have V12 := Keeps.var (Ch.wf N1) N2 V1
  have K2 := N1.trans N2
  have hz2 : ((h.new 24 (mC g gv)).new 24 [.int .i64 0, .int .i64 0, .slice none 0 0, .int .i64 0, .int .i64 0]).size = h.size + 2 := rfl
  simp only [wk, wt, wl, ↓reduceIte, Nat.reduceEqDiff, Nat.reduceAdd, wz, pt, aeff_box, boxV_mgrid o1, hz1, newSz]
  generalize (h.new 24 (mC g gv)).new 24 [.int .i64 0, .int .i64 0, .slice none 0 0, .int .i64 0, .int .i64 0] = h2 at *
  refine W_loop (fun tm hh => tm 1 = pt h.size ∧ tm 2 = pt (h.size + 1) ∧ Keeps h hh ∧ h.size + 2 ≤ hh.size ∧ Var hh h.size (mC g gv) ∧ Var hh (h.size + 1) [.int .i64 0, .int .i64 0, .slice none 0 0, .int .i64 0, .int .i64 0] ∧ ∃ (i f0 : Nat) (cv : Value) (ps : List PC), tm 4 = .int .i64 (i : Int) ∧ tm 3 = cv ∧ i ≤ g.l.length ∧ TW h hh f0 cv (g.l.take i) ps ∧ (∀ z, blkOf cv = some z → h.size + 2 ≤ z) ∧ (∀ p, p ∈ ps → ∀ z, blkOf p.1 = some z → h.size + 2 ≤ z))
    (fun tm _ => (g.l.length - intOf (tm 4)).toNat) ⟨(by first | rfl | (simp only [wk, wt, wl, ↓reduceIte, Nat.reduceEqDiff, Nat.reduceAdd, wz]; done) | (simp only [wk, wt, wl, ↓reduceIte, Nat.reduceEqDiff, Nat.reduceAdd, wz]; rfl) | (simp only [wk, wt, wl, ↓reduceIte, Nat.reduceEqDiff, Nat.reduceAdd, wz, pt]; done) | (simp only [wk, wt, wl, ↓reduceIte, Nat.reduceEqDiff, Nat.reduceAdd, wz, pt]; rfl)), (by first | rfl | (simp only [wk, wt, wl, ↓reduceIte, Nat.reduceEqDiff, Nat.reduceAdd, wz]; done) | (simp only [wk, wt, wl, ↓reduceIte, Nat.reduceEqDiff, Nat.reduceAdd, wz]; rfl) | (simp only [wk, wt, wl, ↓reduceIte, Nat.reduceEqDiff, Nat.reduceAdd, wz, pt]; done) | (simp only [wk, wt, wl, ↓reduceIte, Nat.reduceEqDiff, Nat.reduceAdd, wz, pt]; rfl)), K2, by omega, V12, V2, 0, h.size, .slice none 0 0, [], (by first | rfl | (simp only [wk, wt, wl, ↓reduceIte, Nat.reduceEqDiff, Nat.reduceAdd, wz]; done) | (simp only [wk, wt, wl, ↓reduceIte, Nat.reduceEqDiff, Nat.reduceAdd, wz]; rfl)), (by first | rfl | (simp only [wk, wt, wl, ↓reduceIte, Nat.reduceEqDiff, Nat.reduceAdd, wz]; done) | (simp only [wk, wt, wl, ↓reduceIte, Nat.reduceEqDiff, Nat.reduceAdd, wz]; rfl)), by omega, ⟨⟨rfl, OwnR.nil0, fun p hp => (by cases hp), fun p hp => (by cases hp)⟩, Fam.nil, ⟨Nat.le_refl _, by omega⟩, fun z hz => (by cases hz), fun p hp => (by cases hp), fun p hp => (by cases hp), List.Pairwise.nil⟩, fun z hz => (by cases hz), fun p hp => (by cases hp)⟩ ?_
  rintro tm hh ⟨t1, t2, K, hsz, U1, U2, i, f0, cv, ps, t4, t3, hi, T, hb, hbp⟩
  have H' := Ch.wf K
  obtain ⟨_, _, r2, _⟩ := grid_load U1
  simp only [wk, wt, wl, ↓reduceIte, Nat.reduceEqDiff, Nat.reduceAdd, wz, t1, t2, t3, t4, pt, r2, (A.keeps K).len]
  refine condK_dec (fun hd => ?_) (fun hd => ?_)
  · have hi1 : i < g.l.length := by omega
    obtain ⟨c, hci⟩ : ∃ c, g.l[i]? = some c := ⟨_, List.getElem?_eq_getElem hi1⟩
    obtain ⟨tv, X, LX, IX⟩ := A.atK K hci
    have TX := hT c (List.mem_of_getElem? hci)
    obtain ⟨h3, s3, V3, K3, z3⟩ := cell_var (tv := tv) (c := c) H' (Rd.one X)
    obtain ⟨m0, _⟩ := cell_load V3
    have H3 := Ch.wf K3
    obtain ⟨v', h4, e4, X4, K4, hv4, hw4⟩ := copyT H3 ((X.keeps K).keeps K3) TX.2
    have NK := Keeps.new H3 21 []
    have m0' : aload prog (h3.new 21 []) 43 ⟨hh.size, 0, none⟩ = some tv := (cell_load (c := c) (Keeps.var H3 NK V3)).1
    have V4 := Keeps.var H3 K4 V3
    have H4 := Ch.wf K4
    obtain ⟨h5, s5, V5, C5, z5⟩ := V4.store1 (P := prog) (t := 43) (v := v') (i := 0) H4 asz43 (by simp) X4.one
    simp only [List.set_cons_zero] at V5
    obtain ⟨_, _, _, m5⟩ := cell_load (c := c) V5
    have X5 : RdI prog h5 .i32 v' c.tx := Ch.rd C5 X4 fun z hz e => by have := hv4 z hz; omega
    have K35 := (K3.trans K4).step C5 (fun y e => by omega)
    have H5 := Ch.wf K35
    have T5 := T.keeps K35
    have le5 := Ch.le K35
    have le0 := Ch.le K
    have le4 := Ch.le K4
    have hpl : ps.length = i := by have := T.gp.length; rw [List.length_take] at this; omega
    have B3 := buildA3 (P := prog) (h := h5) (t := 22) underlying22 asz45 azero45 rfl X5.one (one_int (k := .i64) (x := c.ar)) (one_bool (b := c.wd))
    obtain ⟨h7, e7, O7, z7, C7, ⟨k7, g7, ro7, fam7⟩, _⟩ := T5.gp.own.append1 (P := prog) H5 underlying22 elem45 fits45 (by decide) (xs := [v', .int .i64 c.ar, .bool c.wd]) rfl (by omega)
    have W1 := Keeps.var H' K35 U1
    have W2 := Keeps.var H' K35 U2
    have nf : ∀ (y : Nat) (cs : List Value), Var h5 y cs → y < h.size + 2 → ¬ FamV h5 cv y := fun y cs W hy => W.notFam fun e => by have := hb y e; omega
    have Z1 := Ch.var H5 C7 W1 (nf _ _ W1 (by omega))
    have Z2 := Ch.var H5 C7 W2 (nf _ _ W2 (by omega))
    have dirt7 : ∀ y, FamV h5 cv y → h.size ≤ y := fun y d => by
      obtain ⟨k, g', e⟩ := FamV.rg T5.fc d
      have := H5.2 y k g'
      have := T.f0.1
      omega
    have K7 := (K.trans K35).step C7 dirt7
    have H7 := Ch.wf C7
    have CR7 : Ch (Rg (fun m => m = f0) h5) h5 h7 := C7.mono fun y d => FamV.rg T5.fc d
    have F5 : Fam h5 (fun n => h3.size ≤ n ∧ n < h5.size) v' := fun z k e gz => by
      obtain ⟨k0, g0, q⟩ := C5.2.2.2.2.1 z k (X4.blk_lt e).1 gz
      have := Fam.freshK K4 hv4 z k0 e g0
      rw [q]; omega
    have off5 : Fam h5 (Off (fun n => h.size ≤ n) (fun n => n = f0)) v' := F5.mono fun n hn => ⟨by show h.size ≤ n; omega, fun e => by have := T.f0.2; omega⟩
    have tx : ∀ (v : Value) (xs : List Int), RdI prog h5 .i32 v xs → Fam h5 (Off (fun m => h.size ≤ m) (fun m => m = f0)) v → RdI prog h7 .i32 v xs ∧ Fam h7 (fun m => h.size ≤ m ∧ m ≠ f0 ∧ m < h5.size) v ∧ ∀ b, blkOf v = some b → h7.get b = h5.get b := fun v xs Rv Fv => by
      have no := Fv.apart (Gs := fun m => m = f0) fun m a b => a.2 b
      refine ⟨Ch.rd CR7 Rv no, fun z k hz gz => ?_, fun b e => CR7.at (Rv.blk_lt e).1 (no b e)⟩
      have hz5 := (Rv.blk_lt hz).1
      obtain ⟨k2, g2, e2⟩ := CR7.2.2.2.2.1 z k hz5 gz
      have o := Fv z k2 hz g2
      have := H5.2 z k2 g2
      rw [e2]
      exact ⟨o.1, o.2, by omega⟩
    obtain ⟨f1, F8, hf1⟩ : ∃ f1, Fam h7 (fun m => m = f1) (.slice (some ⟨h5.size + 1, 0, none⟩) (ps.length + 1) 0) ∧ (f1 = h5.size + 1 ∨ f1 = f0) := by
      rcases fam7 with e | ⟨w, kw, hw, gw, e⟩
      · exact ⟨h5.size + 1, fun z k hz gz => by cases hz; rw [g7] at gz; cases gz; exact e, .inl rfl⟩
      · exact ⟨f0, fun z k hz gz => by cases hz; rw [g7] at gz; cases gz; exact e.trans (T5.fc w kw hw gw), .inr rfl⟩
    have off7 : ∀ v, Fam h7 (fun m => h.size ≤ m ∧ m ≠ f0 ∧ m < h5.size) v → Fam h7 (Off (fun m => h.size ≤ m) (fun m => m = f1)) v := fun v Fv => Fv.mono fun m hm => ⟨hm.1, fun e => by
      rcases hf1 with q | q
      · omega
      · exact hm.2.1 (by omega)⟩
    have key : ∀ p, p ∈ ps ++ [(v', c)] → RdI prog h7 .i32 p.1 p.2.tx ∧ Fam h7 (Off (fun m => h.size ≤ m) (fun m => m = f1)) p.1 ∧ Wr h7 p ∧ ∀ z, blkOf p.1 = some z → h.size + 2 ≤ z := fun p hp => by
      rcases List.mem_append.1 hp with hp | hp
      · obtain ⟨r, f, a⟩ := tx _ _ (T5.gp.rd p hp) (T5.gp.off p hp)
        refine ⟨r, off7 _ f, fun hne b e => ?_, hbp p hp⟩
        obtain ⟨k, g1, g2⟩ := T5.wr p hp hne b e
        exact ⟨k, (a b e).trans g1, g2⟩
      · obtain rfl := List.mem_singleton.1 hp
        obtain ⟨r, f, a⟩ := tx v' c.tx X5 off5
        refine ⟨r, off7 _ f, fun hne b e => ?_, fun z e => by have := hv4 z e; omega⟩
        obtain ⟨k, g1, g2⟩ := hw4 hne b e
        exact ⟨k, (a b e).trans ((C5.at (X4.blk_lt e).1 (by have := hv4 b e; omega)).trans g1), g2⟩
    have snoc := take_snoc hci
    have T7 : TW h h7 f1 (.slice (some ⟨h5.size + 1, 0, none⟩) (ps.length + 1) 0) (g.l.take (i + 1)) (ps ++ [(v', c)]) := by
      refine ⟨⟨by rw [List.map_append, T.gp.eq, snoc]; rfl, ?_, fun p hp => (key p hp).1, fun p hp => (key p hp).2.1⟩, F8, ⟨by have := T.f0.1; omega, by have := T.f0.2; omega⟩, fun z hz => by have := blk_new z hz; omega, fun p hp z hz => by have := (key p hp).2.2.2 z hz; omega, fun p hp => (key p hp).2.2.1, ?_⟩
      · have := O7
        rw [List.length_append, List.length_singleton, List.flatMap_append]
        exact this
      · rw [List.pairwise_append]
        refine ⟨T5.di.imp_of_mem fun {p q} hp hq d => d.ch C7 (fun z e => ((T5.gp.rd p hp).blk_lt e).1) fun z e => ((T5.gp.rd q hq).blk_lt e).1, List.pairwise_singleton _ _, fun p hp q hq => ?_⟩
        obtain rfl := List.mem_singleton.1 hq
        intro z z' k k' e e' gz gz' eq
        obtain ⟨k0, g0, q0⟩ := C7.2.2.2.2.1 z k ((T5.gp.rd p hp).blk_lt e).1 gz
        obtain ⟨k1, g1, q1⟩ := C7.2.2.2.2.1 z' k' (X5.blk_lt e').1 gz'
        have b1 := F5 z' k1 e' g1
        obtain ⟨k2, g2, q2⟩ := K35.2.2.2.2.1 z k0 ((T.gp.rd p hp).blk_lt e).1 g0
        have b2 := H'.2 z k2 g2
        have b3 := ((T.gp.rd p hp).blk_lt e).1
        omega
    have wi : IntKind.i64.wrap ((i : Int) + 1) = ((i + 1 : Nat) : Int) := by rw [IntWalk.i64_in _ (by omega)]; omega
    simp only [wk, wt, wl, ↓reduceIte, Nat.reduceEqDiff, Nat.reduceAdd, wz, t1, t2, t3, t4, pt, r2, IX, LX, s3, build0 underlying43 asz21, m0', e4, s5, m5, B3, e7, wi, intOf_int]
    exact ⟨⟨K7, by omega, Z1, Z2, i + 1, f1, _, ps ++ [(v', c)], rfl, rfl, by omega, T7, fun z hz => by have := blk_new z hz; omega, fun p hp => (key p hp).2.2.2⟩, by omega⟩
  · obtain rfl : i = g.l.length := by omega
    rw [List.take_length] at T
    have oc : one cv = true := T.gp.own.1.one
    obtain ⟨h3, s3, V3, C3, z3⟩ := U1.store1 (P := prog) (t := 22) (v := cv) (i := 2) H' asz22 (by simp [mC]) oc
    have e3 : (mC g gv).set 2 cv = mC g cv := rfl
    rw [e3] at V3
    obtain ⟨_, _, _, _, _, r5⟩ := grid_load V3
    have W2 := Ch.var H' C3 U2 (by omega)
    obtain ⟨h4, s4, V4, C4, z4⟩ := W2.store (P := prog) (t := 24) (v := mV g cv) (i := 0) (Ch.wf C3) asz24 (by simp [Value.cells, mV, mC]) (by simp [Value.cells, mV, mC, one_cells oc, oc, one_int])
    have e4 : over [.int .i64 0, .int .i64 0, .slice none 0 0, .int .i64 0, .int .i64 0] 0 (mV g cv).cells.toList = mC g cv := by
      rw [over_all (by simp [Value.cells, mV, mC])]; simp [Value.cells, mV, mC, one_cells oc]
    rw [e4] at V4
    have LA := (grid_load V4).2.2.2.2.2
    have C34 : Ch (fun x => x = h.size ∨ x = h.size + 1) hh h4 := (C3.mono fun x e => .inl e).then (C4.mono (D' := fun x => x = h.size ∨ x = h.size + 1) fun x e => .inr e) fun x e => .inr e
    have away : ∀ z, h.size + 2 ≤ z → ¬ (z = h.size ∨ z = h.size + 1) := fun z hz => by omega
    have T4 : TW h h4 f0 cv g.l ps := ⟨⟨T.gp.eq, Ch.ownR C34 T.gp.own fun y hy => away y (hb y hy), fun p hp => Ch.rd C34 (T.gp.rd p hp) fun y hy => away y (hbp p hp y hy), fun p hp => (T.gp.off p hp).ch C34 fun z hz => ((T.gp.rd p hp).blk_lt hz).1⟩, T.fc.ch C34 T.gp.lt, ⟨T.f0.1, by have := T.f0.2; omega⟩, T.hc, T.hp, fun p hp hne b e => by
      obtain ⟨k, g1, g2⟩ := T.wr p hp hne b e
      exact ⟨k, (C34.at ((T.gp.rd p hp).blk_lt e).1 (away b (hbp p hp b e))).trans g1, g2⟩, T.di.imp_of_mem fun {p q} hp hq d => d.ch C34 (fun z e => ((T.gp.rd p hp).blk_lt e).1) fun z e => ((T.gp.rd q hq).blk_lt e).1⟩
    simp only [wk, wt, wl, ↓reduceIte, Nat.reduceEqDiff, Nat.reduceAdd, wz, t1, t2, t3, pt, s3, r5, s4, LA]
    exact ⟨f0, cv, ps, rfl, T4, K.step C34 fun y e => by omega⟩
end Go.Proofs.YthmpaddhmgnkbaaDoor.Am
end
section
/- The law's few and shows. -/
set_option linter.unusedSimpArgs false
set_option linter.unusedVariables false
set_option maxHeartbeats 8000000
set_option maxRecDepth 20000
namespace Go.Proofs.YthmpaddhmgnkbaaDoor.Am
open Go Go.RowKit Go.Proofs.Tryd
theorem few22_ok {h : Heap} {v : Value} {g : GM} (A : GR h v g.l) : ACalls prog 8 #[mV g v] h (fun y h' => y = .bool (decide ((g.l.length : Int) ≤ 20000)) ∧ Keeps h h') := by
  refine acalls_of_W' func8 rfl (by kernel_rfl) (by kernel_rfl) (by simp [ntmps8]) ?_
  intro H
  have o1 := A.one
  have N1 := Keeps.new H 24 (mC g v)
  have V1 := Var.new (e := 24) H (cs := mC g v)
  obtain ⟨_, _, r2, _⟩ := grid_load V1
  simp only [wk, wt, wl, ↓reduceIte, Nat.reduceEqDiff, Nat.reduceAdd, wz, pt, aeff_box, boxV_mgrid o1, r2, (A.keeps N1).len]
  exact N1
theorem GD.gr {h : Heap} {Gs : Nat → Prop} {cv : Value} {l : List Cel} (G : GD h Gs cv l) : GR h cv l := by
  obtain ⟨ps, e, R, F, A⟩ := G
  exact ⟨ps, e, R, fun p hp => (A p hp).1⟩
theorem TW.gr {h0 h : Heap} {f0 : Nat} {cv : Value} {l : List Cel} {ps : List PC} (T : TW h0 h f0 cv l ps) : GR h cv l := ⟨ps, T.gp.eq, T.gp.own.1, T.gp.rd⟩
/-- A terminal that shows a grid is a good one. -/
theorem good_show {o : GM} (hq : wholeB o = true) : Good { newX o.R o.C with cells := o.l, row := o.y, col := o.x } := by
  obtain ⟨hr, hc, hN, hy, hx, _⟩ := whole_of hq
  have Q := rowQ_of hq
  have es := size_in hr hc
  have G0 := good_new o.R o.C
  have hwne : ∀ (i : Nat) (c : Cel), o.l[i]? = some c → c.wd = true → c.tx ≠ [] := fun i c e w et => by
    rw [(Q.emp i c e et).1] at w; cases w
  refine ⟨⟨?_, ?_, ?_, ?_, ?_, ?_, ?_, ?_, ?_⟩, G0.st, G0.sl, G0.sb, G0.hl, G0.hb, G0.ln⟩
  · show 2 ≤ sizeR o.R ∧ sizeR o.R ≤ 500; rw [es.1]; exact hr
  · show 2 ≤ sizeC o.C ∧ sizeC o.C ≤ 1000; rw [es.2]; exact hc
  · show (o.l.length : Int) = sizeR o.R * sizeC o.C; rw [es.1, es.2]; exact hN
  · show 0 ≤ o.y ∧ o.y < sizeR o.R; rw [es.1]; exact hy
  · show 0 ≤ o.x ∧ o.x < sizeC o.C; rw [es.2]; exact hx
  · intro i c e et
    obtain ⟨_, j, d, e1, e2, e3, _, e4⟩ := Q.emp i c e et
    exact ⟨j, d, e1, e2, e3, by show (i : Int) % sizeC o.C ≠ 0; rw [es.2]; exact e4⟩
  · intro i c e w
    exact ((Q.full i c e (hwne i c e w)).2 w).2
  · intro i c e et
    exact (Q.emp i c e et).1
  · intro i e; cases e
/-- What a law's terminal shows at first. -/
structure Sh0 (X : TX) (o n : GM) : Prop where
  rows : X.rows = n.R
  cols : X.cols = n.C
  attr : X.attr = 0
  hid : X.hid = false
  st : X.st = 0
  held : X.held = []
  fit : fitB o n → X.cells = o.l ∧ X.row = o.y ∧ X.col = o.x
theorem shows_ok {h : Heap} {va vb : Value} {o n : GM} (A : GR h va o.l) (ob : one vb = true) (hl : o.l.length ≤ 1000000) (hT : TxR o.l) (hn : wholeB n = true) :
    ACalls prog 10 #[mV o va, mV n vb] h (fun y h' => ∃ x Fs X, y = pt x ∧ h.size ≤ x ∧ DD h h' Fs x X ∧ Sh0 X o n ∧ Keeps h h') := by
  refine acalls_of_W' func10 rfl (by kernel_rfl) (by kernel_rfl) (by simp [ntmps10]) ?_
  intro H
  obtain ⟨hr, hc, _⟩ := whole_of hn
  have es := size_in hr hc
  have o1 := A.one
  have N1 := Keeps.new H 24 (mC o va)
  have V1 := Var.new (e := 24) H (cs := mC o va)
  have hz1 : (h.new 24 (mC o va)).size = h.size + 1 := rfl
  have N2 := Keeps.new (Ch.wf N1) 24 (mC n vb)
  have V2 := Var.new (e := 24) (Ch.wf N1) (cs := mC n vb)
  rw [hz1] at V2
  have V12 := Keeps.var (Ch.wf N1) N2 V1
  have K2 := N1.trans N2
  have hz2 : ((h.new 24 (mC o va)).new 24 (mC n vb)).size = h.size + 2 := rfl
  obtain ⟨y0, y1, _⟩ := grid_load V2
  simp only [wk, wt, wl, ↓reduceIte, Nat.reduceEqDiff, Nat.reduceAdd, wz, pt, aeff_box, boxV_mgrid o1, boxV_mgrid ob, hz1, newSz, y0, y1]
  generalize (h.new 24 (mC o va)).new 24 (mC n vb) = h2 at *
  refine (newDD (r := n.R) (c := n.C)).use ?_
  rintro _ h3 ⟨x, rfl, hx, D3, K23⟩
  have K3 := K2.trans K23
  have W1 := Keeps.var (Ch.wf K2) K23 V12
  have W2 := Keeps.var (Ch.wf K2) K23 V2
  obtain ⟨_, _, _, _, _, q5⟩ := grid_load W1
  simp only [wk, wt, wl, ↓reduceIte, Nat.reduceEqDiff, Nat.reduceAdd, wz, pt, q5]
  refine (refRightQ_ok (A.keeps K3) hT (by omega)).use ?_
  rintro _ h4 ⟨rfl, K34⟩
  have K4 := K3.trans K34
  have Z1 := Keeps.var (Ch.wf K3) K34 W1
  have Z2 := Keeps.var (Ch.wf K3) K34 W2
  obtain ⟨z0, z1, _, _, _, z5⟩ := grid_load Z1
  obtain ⟨x0, x1, _⟩ := grid_load Z2
  have D4 := (D3.keeps K34).base K2
  have S0 : ∀ o', ¬ fitB o' n → Sh0 (newX n.R n.C) o' n := fun o' nf => ⟨es.1, es.2, rfl, rfl, rfl, rfl, fun f => absurd f nf⟩
  have hx' : h.size ≤ x := by have := Ch.le K2; omega
  cases hq : wholeB o with
  | false =>
    have nf : ¬ fitB o n := fun f => by rw [f.1] at hq; cases hq
    simp only [wk, wt, wl, ↓reduceIte, Nat.reduceEqDiff, Nat.reduceAdd, wz, pt]
    exact ⟨x, _, _, rfl, hx', D4, S0 o nf, K4⟩
  | true =>
  by_cases cR : o.R = n.R
  case neg =>
    have nf : ¬ fitB o n := fun f => cR f.2.1
    have d1 := decide_eq_false cR
    simp only [wk, wt, wl, ↓reduceIte, Nat.reduceEqDiff, Nat.reduceAdd, wz, pt, z0, x0, d1]
    exact ⟨x, _, _, rfl, hx', D4, S0 o nf, K4⟩
  have d1 := decide_eq_true cR
  by_cases cC : o.C = n.C
  case neg =>
    have nf : ¬ fitB o n := fun f => cC f.2.2
    have d2 := decide_eq_false cC
    simp only [wk, wt, wl, ↓reduceIte, Nat.reduceEqDiff, Nat.reduceAdd, wz, pt, z0, x0, d1, z1, x1, d2]
    exact ⟨x, _, _, rfl, hx', D4, S0 o nf, K4⟩
  have d2 := decide_eq_true cC
  simp only [wk, wt, wl, ↓reduceIte, Nat.reduceEqDiff, Nat.reduceAdd, wz, pt, z0, x0, d1, z1, x1, d2, z5]
  refine (twin_ok (A.keeps K4) hl hT).use ?_
  rintro _ h5 ⟨f0, cv, ps, rfl, T5, K45⟩
  obtain ⟨cv0, sv, rv, ps0, C, S, R, Q4⟩ := D4.pm
  have H4 := Ch.wf K4
  have Q5 := Q4.keeps H4 K45
  have oc : one cv = true := T5.gp.own.1.one
  obtain ⟨h6, s6, V6, C6, z6⟩ := Q5.var.store (P := prog) (t := 24) (v := mV o cv) (i := 0) (Ch.wf K45) asz24 (by simp [Value.cells, dF, mV, mC, one_cells oc]) (by simp [Value.cells, mV, mC, one_cells oc, oc, one_int])
  have e6 : over (dF (newX n.R n.C) cv0 sv rv) 0 (mV o cv).cells.toList = dF { newX o.R o.C with cells := o.l, row := o.y, col := o.x } cv sv rv := by
    simp [Value.cells, dF, over, mV, mC, one_cells oc, newX, cR, cC, es.1, es.2, lastZ]
  rw [e6] at V6
  obtain ⟨Q6, D6⟩ := Q4.regrid (X' := { newX o.R o.C with cells := o.l, row := o.y, col := o.x }) H4 K45 T5.gp T5.fc T5.f0 C6 V6 rfl rfl rfl
  have K6 : Keeps h h6 := (K4.trans K45).step C6 fun y e => by omega
  simp only [wk, wt, wl, ↓reduceIte, Nat.reduceEqDiff, Nat.reduceAdd, wz, pt, nilV_ptr, s6]
  exact ⟨x, _, _, rfl, hx', ⟨⟨_, _, _, _, _, _, _, Q6⟩, good_show hq, K6, D4.f⟩, ⟨by show sizeR o.R = n.R; rw [cR]; exact es.1, by show sizeC o.C = n.C; rw [cC]; exact es.2, rfl, rfl, rfl, rfl, fun _ => ⟨rfl, rfl, rfl⟩⟩, K6⟩
end Go.Proofs.YthmpaddhmgnkbaaDoor.Am
end
section
/- The law's awake: the chapter's example. -/
set_option linter.unusedSimpArgs false
set_option linter.unusedVariables false
set_option maxHeartbeats 8000000
set_option maxRecDepth 20000
namespace Go.Proofs.YthmpaddhmgnkbaaDoor.Am
open Go Go.RowKit Go.Proofs.Tryd
def gB : GM := ⟨2, 4, blankL 2 4, 0, 0⟩
def gX : GM := ⟨2, 4, (blankL 2 4).set 0 ⟨[120], 0, false⟩, 0, 1⟩
theorem gB_eq : blankL 2 4 = List.replicate 8 (bl 0) := by decide
theorem whole_gX : wholeB gX = true := by kernel_rfl
theorem emit_gX : (emitL gB gX).length = 25 := by kernel_rfl
theorem txr_bl : TxR (blankL 2 4) := fun c hc => by
  rw [gB_eq] at hc
  have : c = bl 0 := List.eq_of_mem_replicate hc
  subst this
  exact ⟨fun y hy => by simp [bl] at hy; subst hy; unfold isR; omega, by simp [bl]⟩
theorem txr_gX : TxR gX.l := fun c hc => by
  rcases List.mem_or_eq_of_mem_set hc with h | h
  · exact txr_bl c h
  · subst h
    exact ⟨fun y hy => by simp at hy; subst hy; unfold isR; omega, by simp⟩
theorem GP.gr {h : Heap} {Fs Ms : Nat → Prop} {cv : Value} {l : List Cel} {ps : List PC} (G : GP h Fs Ms cv l ps) : GR h cv l := ⟨ps, G.eq, G.own.1, G.rd⟩
theorem awake22_ok {h : Heap} (G : Gl h) (Gt0 : Gt h) : ACalls prog 16 #[] h (fun y h' => y = .bool true ∧ Keeps h h') := by
  refine acalls_of_W' func16 rfl (by kernel_rfl) (by kernel_rfl) (by simp [ntmps16]) ?_
  intro H
  simp only [wk, wt, wl, ↓reduceIte, Nat.reduceEqDiff, Nat.reduceAdd, wz]
  refine (refBlank_ok (r := 2) (c := 4)).use ?_
  rintro _ h1 ⟨f0, cv, ps, rfl, GP1, F1, hf, K1⟩
  rw [show sizeR 2 = 2 by decide, show sizeC 4 = 4 by decide]
  have oc : one cv = true := GP1.own.1.one
  obtain ⟨h2, s2, V2, K12, z2⟩ := putGrid (Ch.wf K1) (r := 2) (c := 4) (v := cv) (y := 0) (x := 0) oc
  have K2 := K1.trans K12
  have A2 : GR h2 cv gB.l := GP1.gr.keeps K12
  have V2' : Var h2 h1.size (mC gB cv) := V2
  obtain ⟨_, _, _, _, _, q5⟩ := grid_load V2'
  simp only [wk, wt, wl, ↓reduceIte, Nat.reduceEqDiff, Nat.reduceAdd, wz, s2, pt, q5]
  refine (twin_ok A2 (by decide) txr_bl).use ?_
  rintro _ h3 ⟨f3, dv, qs, rfl, T3, K23⟩
  have K3 := K2.trans K23
  have od : one dv = true := T3.gp.own.1.one
  have W3 := Keeps.var (Ch.wf K2) K23 V2'
  obtain ⟨h4, s4, V4, K34, z4⟩ := putGrid (Ch.wf K3) (r := 2) (c := 4) (v := dv) (y := 0) (x := 0) od
  have V4' : Var h4 h3.size (mC gB dv) := V4
  have T4 := T3.keeps K34
  have K4 := K3.trans K34
  have W4 := Keeps.var (Ch.wf K3) K34 W3
  have A4 : GR h4 cv gB.l := (A2.keeps K23).keeps K34
  have s4' : storeV prog (h3.new 24 [.int .i64 0, .int .i64 0, .slice none 0 0, .int .i64 0, .int .i64 0]) 24 (.pointer (some ⟨h3.size, 0, none⟩)) (mV gB dv) = some (undef, h4) := s4
  obtain ⟨_, _, r2, _⟩ := grid_load V4'
  have hlen : qs.length = 8 := T3.gp.length
  obtain ⟨p, rest, hqs⟩ : ∃ p rest, qs = p :: rest := by
    cases qs with
    | nil => simp at hlen
    | cons p rest => exact ⟨p, rest, rfl⟩
  have hpm : p ∈ qs := by rw [hqs]; simp
  have hp2 : p.2 = bl 0 := by
    have e := T3.gp.eq
    rw [hqs] at e
    have e2 : gB.l = List.replicate 8 (bl 0) := gB_eq
    rw [e2] at e
    simp only [List.map_cons, List.replicate_succ, List.cons.injEq] at e
    exact e.1
  have I := Rd.index T4.gp.own.1 underlying22 asz45 (q := .i64) (i := 0) (by omega) (by omega)
  have h0p : qs[0]? = some p := by rw [hqs]; rfl
  have L0 := (show RS prog h4 3 cC dv qs from T4.gp.own.1).fld cC_len (t := 43) underlying43 rfl h0p (j := 0) (by decide)
  have RP := T4.gp.rd p hpm
  have tx0 : p.2.tx = [32] := by rw [hp2]; rfl
  have RP1 : RdI prog h4 .i32 p.1 [32] := by rw [← tx0]; exact RP
  have OP0 : OwnR prog h4 1 p.1 1 [.int .i32 32] := ⟨RP1, T4.wr p hpm (by rw [tx0]; simp)⟩
  have IT := RdI.index RP1 underlying43 asz21 (q := .i64) (i := 0) (by omega) (by simp)
  obtain ⟨h5, s5, O5, C5, z5, _, _⟩ := OP0.storeA (P := prog) (Ch.wf K4) (t := 21) (w := .int .i32 120) (i := 0) asz21 rfl (by simp [Value.cells, one]) (by omega)
  have hplt : ∀ z, blkOf p.1 = some z → z < h4.size := fun z e => (RP.blk_lt e).1
  have FP : Fam h4 (fun n => h2.size ≤ n ∧ n ≠ f3) p.1 := (T4.gp.off p hpm).mono fun n hn => ⟨hn.1, hn.2⟩
  have C5' : Ch (Rg (fun n => h2.size ≤ n ∧ n ≠ f3) h4) h4 h5 := C5.mono fun x d => FamV.rg FP d
  have dirt : ∀ x, FamV h4 p.1 x → h2.size ≤ x := fun x d => by
    obtain ⟨k, g, f⟩ := FamV.rg FP d
    have := (Ch.wf K4).2 x k g
    omega
  have K25 : Keeps h2 h5 := (K23.trans K34).step C5 dirt
  have K5 := K2.trans K25
  have V5 := Ch.var (Ch.wf K4) C5 V4' (V4'.notFam fun e => by
    have := (T3.gp.rd p hpm).blk_lt e
    omega)
  have W5 := Keeps.var (Ch.wf K2) K25 V2'
  have A5 : GR h5 cv gB.l := A2.keeps K25
  have X5 : RdI prog h5 .i32 p.1 [120] := by
    have := O5.1
    simpa [over, Value.cells, RdI] using this
  obtain ⟨h6, s6, V6, C6, z6⟩ := V5.store1 (P := prog) (t := 3) (v := .int .i64 1) (i := 4) (Ch.wf C5) asz3 (by simp [mC]) rfl
  have V6' : Var h6 h3.size (mC gX dv) := V6
  have C46 : Ch (fun x => FamV h4 p.1 x ∨ x = h3.size) h4 h6 := (C5.mono fun x e => .inl e).then (C6.mono (D' := fun x => x = h3.size) fun x e => e) fun x e => .inr (.inr e)
  have X6 : RdI prog h6 .i32 p.1 [120] := Ch.rd C6 X5 fun z e d => by
    have := ((T3.gp.rd p hpm).blk_lt e).1
    omega
  have B6 : GR h6 dv gX.l := by
    refine ⟨(p.1, ⟨[120], 0, false⟩) :: rest, ?_, ?_, fun q hq => ?_⟩
    · have e := T3.gp.eq
      rw [hqs] at e
      show ⟨[120], 0, false⟩ :: rest.map Prod.snd = (blankL 2 4).set 0 ⟨[120], 0, false⟩
      have e2 : blankL 2 4 = p.2 :: rest.map Prod.snd := e.symm
      rw [e2]; rfl
    · have R := Ch.rd C46 T4.gp.own.1 fun z e d => by
        rcases d with d | d
        · obtain ⟨k, g, f⟩ := FamV.rg FP d
          exact f.2 (T4.fc z k e g)
        · have := T3.gp.lt z e
          omega
      rw [hqs] at R
      have e3 : cC (p.1, (⟨[120], 0, false⟩ : Cel)) = cC p := by
        obtain ⟨pv, pc⟩ := p
        simp only at hp2
        subst hp2
        rfl
      show Rd prog h6 3 dv (((p.1, (⟨[120], 0, false⟩ : Cel)) :: rest).length) (((p.1, (⟨[120], 0, false⟩ : Cel)) :: rest).flatMap cC)
      rw [List.flatMap_cons, e3]
      rw [List.flatMap_cons] at R
      exact R
    · rcases List.mem_cons.1 hq with rfl | hq
      · exact X6
      · have hqm : q ∈ qs := by rw [hqs]; exact List.mem_cons_of_mem _ hq
        have dif : Dif h4 p.1 q.1 := by
          have d := T4.di
          rw [hqs, List.pairwise_cons] at d
          exact d.1 q hq
        refine Ch.rd C46 (T4.gp.rd q hqm) fun z e d => ?_
        rcases d with ⟨b, e1, k1, k2, g1, g2, g3⟩ | d
        · exact dif b z k2 k1 e1 e g2 g1 g3.symm
        · have := ((T3.gp.rd q hqm).blk_lt e).1
          omega
  have K26 : Keeps h2 h6 := K25.step C6 fun y e => by have := Ch.le K23; omega
  have K6 := K2.trans K26
  have W6 := Keeps.var (Ch.wf K2) K26 V2'
  have A6 : GR h6 cv gB.l := A2.keeps K26
  obtain ⟨_, _, _, _, _, q6⟩ := grid_load W6
  obtain ⟨_, _, _, _, _, r6⟩ := grid_load V6'
  have L0' : aload prog h4 43 ⟨(eltA dv 3 0).block, (eltA dv 3 0).off + 0, none⟩ = some p.1 := L0
  simp only [wk, wt, wl, ↓reduceIte, Nat.reduceEqDiff, Nat.reduceAdd, wz, pt, s4', r2, I, L0', IT, s5, Int.toNat_zero, s6]
  have H6 := Ch.wf K6
  have lB : gB.l.length ≤ 1000000 := by decide
  have lX : gX.l.length ≤ 1000000 := by decide
  simp only [wk, wt, wl, ↓reduceIte, Nat.reduceEqDiff, Nat.reduceAdd, wz, q6, r6]
  refine (emit_ok A6 B6 lB lX txr_bl txr_gX (G.keeps K6) (Gt0.keeps K6)).use ?_
  rintro bv h7 ⟨R7, hb7, K67⟩
  have K7 := K6.trans K67
  have W7 := Keeps.var H6 K67 W6
  have V7 := Keeps.var H6 K67 V6'
  obtain ⟨_, _, _, _, _, q7⟩ := grid_load W7
  obtain ⟨_, _, _, _, _, r7⟩ := grid_load V7
  simp only [wk, wt, wl, ↓reduceIte, Nat.reduceEqDiff, Nat.reduceAdd, wz, pt, q7, r7]
  refine (shows_ok (o := gB) (n := gX) (A6.keeps K67) od lB txr_bl whole_gX).use ?_
  rintro _ h8 ⟨x, Fs, X, rfl, hx, D8, S8, K78⟩
  have hbv : Fam h8 (fun n => ¬ Fs n) bv := fun z k e g => by
    obtain ⟨k0, g0, e0⟩ := K78.2.2.2.2.1 z k (R7.blk_lt e).1 g
    have := (Ch.wf K7).2 z k0 g0
    have := (R7.blk_lt e).1
    intro f
    have := D8.f _ f
    omega
  have fitX : fitB gB gX → X.cells = gB.l ∧ X.row = gB.y ∧ X.col = gB.x := S8.fit
  obtain ⟨SX, EB⟩ := shows_plain (X := X) (o := gB) (n := gX) whole_gX D8.good S8.st S8.held S8.attr S8.hid S8.rows S8.cols fitX
  simp only [wk, wt, wl, ↓reduceIte, Nat.reduceEqDiff, Nat.reduceAdd, wz]
  refine (D8.write (R7.keeps K78) hbv EB (by rw [emit_gX]; omega)).use ?_
  rintro _ h9 ⟨rfl, D9, C9⟩
  have K79 := D9.k
  have K9 := K7.trans K79
  have V9 := Keeps.var (Ch.wf K7) K79 V7
  obtain ⟨_, _, _, _, _, r9⟩ := grid_load V9
  have LB := (R7.keeps K79).len underlying30
  rw [emit_gX] at LB
  obtain ⟨tc, lg, GDt, _⟩ := D9.gd
  have eG : gV (writeX X (emitL gB gX)) tc = mV gX tc := by
    unfold gV mV mC
    rw [SX.rows, SX.cols, SX.row, SX.col]
  rw [eG] at lg
  have GT := GDt.gr
  rw [SX.cells] at GT
  have BX9 := (B6.keeps K67).keeps K79
  have d1 : decide ((0 : Int) < ((25 : Nat) : Int)) = true := by decide
  have d2 : decide (((25 : Nat) : Int) ≤ 76) = true := by decide
  have dX : decide (gX = gX) = true := decide_eq_true rfl
  simp only [wk, wt, wl, ↓reduceIte, Nat.reduceEqDiff, Nat.reduceAdd, wz]
  refine adraw_order [(0, false), (1, false), (2, false), (3, false), (4, false), (5, false), (6, false), (7, false), (8, false), (9, false), (10, false), (11, false), (12, false), (13, false), (14, false), (15, false), (16, false), (17, false), (18, false), (19, false), (20, false), (21, false), (22, false), (23, false)] mixed (by kernel_rfl) (by kernel_rfl) (by kernel_rfl) (by with_reducible repeat (first | exact PF_retK | refine PF_thenK ?_ | refine PF_blockK ?_)) ?_
  simp only [wk, wt, wl, ↓reduceIte, Nat.reduceEqDiff, Nat.reduceAdd, wz, dK_t, pt, nilV_ptr, LB, d1, d2, lg, r9]
  refine (refSame_ok (a := gX) (b := gX) GT BX9 (by decide) txr_gX.b).use ?_
  rintro _ h10 ⟨rfl, K910⟩
  have K10 := K9.trans K910
  have V10 := Keeps.var (Ch.wf K9) K910 V9
  obtain ⟨_, _, _, _, _, r10⟩ := grid_load V10
  simp only [wk, wt, wl, ↓reduceIte, Nat.reduceEqDiff, Nat.reduceAdd, wz, dK_t, pt, dX, r9, r10]
  try refine ⟨K910.reads (Ch.wf K9), ?_⟩
  refine (emit_ok (BX9.keeps K910) (BX9.keeps K910) lX lX txr_gX txr_gX (G.keeps K10) (Gt0.keeps K10)).use ?_
  rintro cv2 h11 ⟨R11, _, K1011⟩
  have e0 : emitL gX gX = [] := emit_nil.2 (.inr rfl)
  rw [e0] at R11
  have L11 := R11.len underlying30
  have d11 : decide ((([] : List Int).length : Int) = 0) = true := by decide
  simp only [wk, wt, wl, ↓reduceIte, Nat.reduceEqDiff, Nat.reduceAdd, wz, dK_t, pt, L11, d11]
  exact K10.trans K1011
end Go.Proofs.YthmpaddhmgnkbaaDoor.Am
end
section
/- The law EmitNothing. -/
set_option linter.unusedSimpArgs false
set_option linter.unusedVariables false
set_option maxHeartbeats 8000000
set_option maxRecDepth 20000
namespace Go.Proofs.YthmpaddhmgnkbaaDoor.Am
open Go Go.RowKit Go.Proofs.Tryd
end Go.Proofs.YthmpaddhmgnkbaaDoor.Am
end
section
/- The law EmitShows. -/
set_option linter.unusedSimpArgs false
set_option linter.unusedVariables false
set_option maxHeartbeats 8000000
set_option maxRecDepth 20000
namespace Go.Proofs.YthmpaddhmgnkbaaDoor.Am
open Go Go.RowKit Go.Proofs.Tryd
/-- How long the bytes are at most. -/
theorem body_len {n : GM} (hn : wholeB n = true) (o : List Cel) : ∀ (L : List Nat) (O : OX), (∀ i, i ∈ L → i < n.l.length) → -1 ≤ O.pos ∧ O.pos ≤ 10000000 → (L.foldl (cellO n) O).b.length ≤ O.b.length + 28 * L.length
  | [], O, _, _ => Nat.le_refl _
  | i :: L, O, hL, hp => by
    have h1 := cellO_bd (O := O) hn (hL i (by simp)) hp
    have h2 := body_len hn o L (cellO n O i) (fun j hj => hL j (by simp [hj])) h1.2
    rw [List.foldl_cons, List.length_cons]
    omega
theorem tail_len {n : GM} {O : OX} : (tailL n O).length ≤ O.b.length + 22 := by
  have pl := place_len (i := n.y * n.C + n.x) (C := n.C)
  have pb : (paintO O 0).b.length ≤ O.b.length + 4 := by
    unfold paintO
    split
    · omega
    · simp only; rw [List.length_append]; split <;> simp
  unfold tailL
  simp only [List.length_append, List.length_cons, List.length_nil]
  omega
theorem told_len {o n : List Cel} : (toldL o n).length ≤ n.length := by
  have := List.length_filter_le (toldB o n) (List.range n.length)
  rw [List.length_range] at this
  exact this
theorem emit_len {o n : GM} (ln : n.l.length ≤ 20000) : (emitL o n).length ≤ 1000000 := by
  unfold emitL
  by_cases h1 : wholeB n = false ∨ o = n
  · rw [if_pos h1]; simp
  rw [if_neg h1]
  have hn : wholeB n = true := by cases h : wholeB n with | true => rfl | false => exact absurd (.inl h) h1
  have pl := place_len (i := n.y * n.C + n.x) (C := n.C)
  have go : ∀ (o' : GM) (b : List Int), b.length ≤ 10 → (tailL n (bodyO o' n ⟨b, 0, -1⟩)).length ≤ 1000000 := fun o' b hb => by
    have t := tail_len (n := n) (O := bodyO o' n ⟨b, 0, -1⟩)
    have bl := body_len hn [] (toldL o'.l n.l) ⟨b, 0, -1⟩ (fun i hi => by
      unfold toldL at hi
      exact List.mem_range.1 (List.mem_filter.1 hi).1) ⟨Int.le_refl _, show (-1 : Int) ≤ 10000000 by decide⟩
    have tl := told_len (o := o'.l) (n := n.l)
    have bl' : (bodyO o' n ⟨b, 0, -1⟩).b.length ≤ b.length + 28 * (toldL o'.l n.l).length := bl
    omega
  split
  · split
    · omega
    · exact go o hideL (by decide)
  · exact go _ _ (by decide)
theorem GD.lt {h : Heap} {Gs : Nat → Prop} {cv : Value} {l : List Cel} (G : GD h Gs cv l) (H : Wf h) : GD h (fun k => Gs k ∧ k < h.size) cv l := by
  obtain ⟨ps, e, R, F, A⟩ := G
  exact ⟨ps, e, R, fun z k hz g => ⟨F z k hz g, by have := H.2 z k g; have := (R.blk_lt hz).1; omega⟩, fun p hp => ⟨(A p hp).1, fun z k hz g => ⟨(A p hp).2 z k hz g, by have := H.2 z k g; have := ((A p hp).1.blk_lt hz).1; omega⟩⟩⟩
theorem TW.gd {h0 h : Heap} {f0 : Nat} {cv : Value} {l : List Cel} {ps : List PC} (T : TW h0 h f0 cv l ps) : GD h (fun k => h0.size ≤ k) cv l :=
  ⟨ps, T.gp.eq, T.gp.own.1, T.fc.mono fun n e => by have := T.f0.1; omega, fun p hp => ⟨T.gp.rd p hp, (T.gp.off p hp).mono fun n e => e.1⟩⟩
end Go.Proofs.YthmpaddhmgnkbaaDoor.Am
end
section
/- The document's May, at bytes that are tokens; the law EmitForms. -/
set_option linter.unusedSimpArgs false
set_option linter.unusedVariables false
set_option maxHeartbeats 8000000
set_option maxRecDepth 20000
namespace Go.Proofs.YthmpaddhmgnkbaaDoor.Am
open Go Go.RowKit Go.Proofs.Tryd
theorem sq_len {s : List Int} (h : SqQ s) : 3 ≤ s.length := by
  rcases h with ⟨c, _, rfl⟩ | ⟨d, c, _, _, rfl⟩ | ⟨d, e, _, _, rfl⟩
  · simp
  · simp only [List.length_cons, List.length_append, List.length_nil]; omega
  · simp only [List.length_cons, List.length_append, List.length_nil]; omega
theorem toksB_app {a b : List Tok} : toksB (a ++ b) = toksB a ++ toksB b := by simp [toksB]
theorem toksB_cons {x : Tok} {b : List Tok} : toksB (x :: b) = tokB x ++ toksB b := by simp [toksB]
/-- A rune that is shown as itself, as bytes. -/
theorem ru_enc {r : Int} (h : showL r = [r]) (t : List Int) : ∃ x m, encR r = x :: m ∧ x ≠ 27 ∧ nextT (encR r ++ t) = .tuple #[.int .i32 r, .int .i64 (encR r).length, .bool false] ∧ isR r ∧ (r = 65533 → x = 239 ∧ (encR r).length = 3) := by
  obtain ⟨hv, h1, h2⟩ := show_valid h
  have hv' : (0 ≤ r ∧ r < 55296) ∨ (57343 < r ∧ r ≤ 1114111) := by simpa [validB] using hv
  have he : encR r = encV r := by unfold encR fixR; rw [if_pos hv]
  have hn := nextZ_enc hv t
  have hne : encV r ≠ [] := by
    unfold encV
    split
    · simp
    · split
      · simp
      · split <;> simp
  obtain ⟨x, m, hx⟩ := List.exists_cons_of_ne_nil hne
  have hhi := encL_high (l := [r]) (fun y hy => by simp at hy; subst hy; exact h) x (by simp [encL, he, hx])
  refine ⟨x, m, by rw [he, hx], by omega, ?_, by unfold isR; omega, fun e => ?_⟩
  · rw [he]
    unfold nextT
    rw [hn]
  · subst e
    rw [he]
    have : encV 65533 = [239, 191, 189] := by decide
    rw [this] at hx ⊢
    simp at hx
    exact ⟨hx.1.symm, rfl⟩
theorem may_ok {h : Heap} {bv : Value} {bs : List Int} (R : RdI prog h .u8 bv bs) (T : TokL bs) (hB : ∀ x, x ∈ bs → isB x) (hl : bs.length ≤ 1000000000) :
    ACalls prog 18 #[bv] h (fun y h' => y = .bool true ∧ Keeps h h') := by
  refine acalls_of_W' func18 rfl (by kernel_rfl) (by kernel_rfl) (by simp [ntmps18]) ?_
  intro H
  obtain ⟨toks, e, g⟩ := T
  simp only [wk, wt, wl, ↓reduceIte, Nat.reduceEqDiff, Nat.reduceAdd, wz]
  refine W_loop (fun tm hh => tm 0 = bv ∧ Keeps h hh ∧ ∃ (a l : List Tok) (t : Bool), toks = a ++ l ∧ tm 4 = .int .i64 ((toksB a).length : Int) ∧ tm 3 = .bool t ∧ GT t l) (fun tm _ => (bs.length - intOf (tm 4)).toNat) ⟨(by first | rfl | (simp only [wk, wt, wl, ↓reduceIte, Nat.reduceEqDiff, Nat.reduceAdd, wz]; done) | (simp only [wk, wt, wl, ↓reduceIte, Nat.reduceEqDiff, Nat.reduceAdd, wz]; rfl)), Keeps.refl H, [], toks, false, rfl, (by first | rfl | (simp only [wk, wt, wl, ↓reduceIte, Nat.reduceEqDiff, Nat.reduceAdd, wz]; done) | (simp only [wk, wt, wl, ↓reduceIte, Nat.reduceEqDiff, Nat.reduceAdd, wz]; rfl)), (by first | rfl | (simp only [wk, wt, wl, ↓reduceIte, Nat.reduceEqDiff, Nat.reduceAdd, wz]; done) | (simp only [wk, wt, wl, ↓reduceIte, Nat.reduceEqDiff, Nat.reduceAdd, wz]; rfl)), g⟩ ?_
  rintro tm hh ⟨t0, K, a, l, t, et, t4, t3, gt⟩
  have RK := R.keeps K
  have LN := RdI.len RK underlying30
  have eb : bs = toksB a ++ toksB l := by rw [e, et, toksB_app]
  have hlen : bs.length = (toksB a).length + (toksB l).length := by rw [eb]; simp
  cases l with
  | nil =>
    have d0 : decide (((toksB a).length : Int) < (bs.length : Int)) = false := decide_eq_false (by have : (toksB ([] : List Tok)).length = 0 := rfl; omega)
    simp only [wk, wt, wl, ↓reduceIte, Nat.reduceEqDiff, Nat.reduceAdd, wz, t0, t3, t4, LN, d0]
    exact K
  | cons x l =>
  rw [toksB_cons, List.length_append] at hlen
  rw [toksB_cons] at eb
  cases x with
  | sq s =>
    obtain ⟨g1, g2⟩ := gt
    have sl := sq_len g1
    have hs : (tokB (.sq s)).length = s.length := rfl
    have d0 : decide (((toksB a).length : Int) < (bs.length : Int)) = true := decide_eq_true (by omega)
    have d1 : decide ((0 : Int) < (s.length : Int)) = true := decide_eq_true (by omega)
    have wa : IntKind.i64.wrap (((toksB a).length : Int) + (s.length : Int)) = ((toksB (a ++ [.sq s])).length : Int) := by
      rw [IntWalk.i64_in _ (by omega), toksB_app, List.length_append]
      simp [toksB, tokB]
    have hle : (toksB (a ++ [.sq s])).length = (toksB a).length + s.length := by rw [toksB_app, List.length_append]; simp [toksB, tokB]
    simp only [wk, wt, wl, ↓reduceIte, Nat.reduceEqDiff, Nat.reduceAdd, wz, t0, t3, t4, LN, d0]
    refine (seq_some (s := s) RK eb g1 hl).use_pure ?_
    simp only [wk, wt, wl, ↓reduceIte, Nat.reduceEqDiff, Nat.reduceAdd, wz, t0, t3, t4, d1, wa, intOf_int]
    exact ⟨⟨K, a ++ [.sq s], l, false, by rw [et]; simp, rfl, rfl, g2⟩, by omega⟩
  | ru r =>
    obtain ⟨g1, g2, g3⟩ := gt
    obtain ⟨x, m, ex, x27, en, hr, hf⟩ := ru_enc g1 (toksB l)
    have hs : (tokB (.ru r)).length = (encR r).length := rfl
    have hpos : 0 < (encR r).length := by rw [ex]; simp
    have d0 : decide (((toksB a).length : Int) < (bs.length : Int)) = true := decide_eq_true (by omega)
    have hz : bs[(toksB a).length]? = some x := by
      rw [eb]
      have := app_at (a := toksB a) (b := tokB (.ru r) ++ toksB l) (i := 0)
      rw [Nat.add_zero] at this
      rw [this]
      show (encR r ++ toksB l)[0]? = some x
      rw [ex]; rfl
    obtain ⟨I, L⟩ := RK.byte hz
    have SL := Rd.sliceLo RK underlying30 asz5 (q := .i64) (i := ((toksB a).length : Int)) (by omega) (by omega)
    rw [Int.toNat_natCast] at SL
    have RP := RK.partLo (L := (toksB a).length) (by omega)
    have edrop : bs.drop (toksB a).length = encR r ++ toksB l := by rw [eb, List.drop_left]; rfl
    rw [edrop] at RP
    have z0 : decide ((0 : Int) < 0) = false := by decide
    simp only [wk, wt, wl, ↓reduceIte, Nat.reduceEqDiff, Nat.reduceAdd, wz, t0, t3, t4, LN, d0]
    refine (seq_other RK hz x27 hl).use_pure ?_
    simp only [wk, wt, wl, ↓reduceIte, Nat.reduceEqDiff, Nat.reduceAdd, wz, t0, t3, t4, z0, SL]
    refine (refNext_ok RP (fun y hy => hB y (by rw [eb]; exact List.mem_append_right _ hy)) (by rw [List.length_append]; omega)).use ?_
    rintro _ h4 ⟨rfl, K4⟩
    rw [en]
    simp only [wk, wt, wl, ↓reduceIte, Nat.reduceEqDiff, Nat.reduceAdd, wz, t0, t3, t4]
    refine (refShow_ok hr).use ?_
    rintro _ h5 ⟨rfl, e5⟩
    subst e5
    rw [g1]
    have H4 := Ch.wf K4
    have N5 := Keeps.new H4 21 ([r].map (Value.int .i32))
    have K5 := (K.trans K4).trans N5
    have RS5 : RdI prog (h4.new 21 ([r].map (Value.int .i32))) .i32 (.slice (some ⟨h4.size, 0, none⟩) [r].length ([r].length + 1)) [r] := Rd.new H4 asz21 (by simp)
    generalize h4.new 21 ([r].map (Value.int .i32)) = h5 at *
    generalize Value.slice (some ⟨h4.size, 0, none⟩) [r].length ([r].length + 1) = sv at *
    have I5 := RdI.index RS5 underlying43 asz21 (q := .i64) (i := 0) (by omega) (by simp)
    have L5 := RdI.at RS5 (t := 21) underlying21 rfl (i := 0) (by simp)
    have LS := RdI.len RS5 underlying43
    have hr0 : [r].getD 0 0 = r := rfl
    rw [hr0] at L5
    obtain ⟨_, L'⟩ := (R.keeps K5).byte hz
    have wa : IntKind.i64.wrap (((toksB a).length : Int) + ((encR r).length : Int)) = ((toksB (a ++ [.ru r])).length : Int) := by
      rw [IntWalk.i64_in _ (by omega), toksB_app, List.length_append]
      simp [toksB, tokB]
    have hle : (toksB (a ++ [.ru r])).length = (toksB a).length + (encR r).length := by rw [toksB_app, List.length_append]; simp [toksB, tokB]
    have k1 : decide (¬ (([r].length : Nat) : Int) = 1) = false := by rw [show ([r].length : Nat) = 1 from rfl]; decide
    have k2 : decide (¬ r = r) = false := decide_eq_false (fun c => c rfl)
    have w0 : decide (widthZ r = 0) = false ∨ (decide (widthZ r = 0) = true ∧ t = true) := by
      rcases g2 with g2 | g2
      · exact .inl (decide_eq_false g2)
      · by_cases c : widthZ r = 0
        · exact .inr ⟨decide_eq_true c, g2⟩
        · exact .inl (decide_eq_false c)
    by_cases c65 : r = 65533
    · obtain ⟨f1, f2⟩ := hf c65
      have q1 := decide_eq_true c65
      have q2 : decide (¬ ((encR r).length : Int) = 3) = false := decide_eq_false (fun c => c (by rw [f2]; rfl))
      have q3 : decide (¬ x = 239) = false := decide_eq_false (fun c => c f1)
      simp only [wk, wt, wl, ↓reduceIte, Nat.reduceEqDiff, Nat.reduceAdd, wz, t0, t3, t4, q1, q2, I, L', q3, LS, k1, I5, L5, k2, Int.toNat_zero]
      refine refWidth_ok.use_pure ?_
      rcases w0 with w0 | ⟨w0, rfl⟩
      · simp only [wk, wt, wl, ↓reduceIte, Nat.reduceEqDiff, Nat.reduceAdd, wz, t0, t3, t4, w0, wa, intOf_int]
        exact ⟨⟨K5, a ++ [.ru r], l, true, by rw [et]; simp, rfl, rfl, g3⟩, by omega⟩
      · simp only [wk, wt, wl, ↓reduceIte, Nat.reduceEqDiff, Nat.reduceAdd, wz, t0, t3, t4, w0, Bool.not_true, wa, intOf_int]
        exact ⟨⟨K5, a ++ [.ru r], l, true, by rw [et]; simp, rfl, rfl, g3⟩, by omega⟩
    · have q1 := decide_eq_false c65
      simp only [wk, wt, wl, ↓reduceIte, Nat.reduceEqDiff, Nat.reduceAdd, wz, t0, t3, t4, q1, LS, k1, I5, L5, k2, Int.toNat_zero]
      refine refWidth_ok.use_pure ?_
      rcases w0 with w0 | ⟨w0, rfl⟩
      · simp only [wk, wt, wl, ↓reduceIte, Nat.reduceEqDiff, Nat.reduceAdd, wz, t0, t3, t4, w0, wa, intOf_int]
        exact ⟨⟨K5, a ++ [.ru r], l, true, by rw [et]; simp, rfl, rfl, g3⟩, by omega⟩
      · simp only [wk, wt, wl, ↓reduceIte, Nat.reduceEqDiff, Nat.reduceAdd, wz, t0, t3, t4, w0, Bool.not_true, wa, intOf_int]
        exact ⟨⟨K5, a ++ [.ru r], l, true, by rw [et]; simp, rfl, rfl, g3⟩, by omega⟩
theorem sq_B {s : List Int} (h : SqQ s) : ∀ x, x ∈ s → isB x := fun x hx => by
  have dg : ∀ {d : List Int}, DigQ d → x ∈ d → isB x := fun hd h => by have := hd x h; simp only [isB]; omega
  rcases h with ⟨c, hc, rfl⟩ | ⟨d, c, hd, hc, rfl⟩ | ⟨d, e, hd, he, rfl⟩
  · simp only [List.mem_cons, List.not_mem_nil, or_false] at hx
    simp only [isB]; omega
  · simp only [List.mem_cons, List.mem_append, List.not_mem_nil, or_false] at hx
    rcases hx with rfl | rfl | hx | rfl
    · simp [isB]
    · simp [isB]
    · exact dg hd hx
    · simp only [isB]; omega
  · simp only [List.mem_cons, List.mem_append, List.not_mem_nil, or_false] at hx
    rcases hx with rfl | rfl | hx | rfl | hx | rfl
    · simp [isB]
    · simp [isB]
    · exact dg hd hx
    · simp [isB]
    · exact dg he hx
    · simp [isB]
theorem tok_B : ∀ {l : List Tok} {t : Bool}, GT t l → ∀ x, x ∈ toksB l → isB x
  | [], _, _, x, h => by simp [toksB] at h
  | .sq s :: l, t, g, x, h => by
    rw [toksB_cons] at h
    rcases List.mem_append.1 h with h | h
    · exact sq_B g.1 x h
    · exact tok_B g.2 x h
  | .ru r :: l, t, g, x, h => by
    rw [toksB_cons] at h
    rcases List.mem_append.1 h with h | h
    · exact encR_isB x h
    · exact tok_B g.2.2 x h
theorem TokL.isB {b : List Int} (T : TokL b) : ∀ x, x ∈ b → isB x := by
  obtain ⟨l, rfl, g⟩ := T
  exact tok_B g
theorem emitForms_law {h : Heap} {va vb : Value} {o n : GM} (A : GR h va o.l) (B : GR h vb n.l) (To : TxR o.l) (Tn : TxR n.l) (G : Gl h) (Gt0 : Gt h) (lo : o.l.length ≤ 1000000000) (ln : n.l.length ≤ 1000000000) :
    ACalls prog 5 #[mV o va, mV n vb] h (fun y h' => y = .bool true ∧ Keeps h h') := by
  refine acalls_of_W' func5 rfl (by kernel_rfl) (by kernel_rfl) (by simp [ntmps5]) ?_
  intro H
  have o1 := A.one
  have o2 := B.one
  have N1 := Keeps.new H 24 (mC o va)
  have V1 := Var.new (e := 24) H (cs := mC o va)
  have hz1 : (h.new 24 (mC o va)).size = h.size + 1 := rfl
  have N2 := Keeps.new (Ch.wf N1) 24 (mC n vb)
  have V2 := Var.new (e := 24) (Ch.wf N1) (cs := mC n vb)
  rw [hz1] at V2
  have V12 := Keeps.var (Ch.wf N1) N2 V1
  have K2 := N1.trans N2
  obtain ⟨_, _, _, _, _, q2⟩ := grid_load V12
  simp only [wk, wt, wl, ↓reduceIte, Nat.reduceEqDiff, Nat.reduceAdd, wz, pt, aeff_box, boxV_mgrid o1, boxV_mgrid o2, hz1, newSz, q2]
  generalize (h.new 24 (mC o va)).new 24 (mC n vb) = h2 at *
  refine (few22_ok (A.keeps K2)).use ?_
  rintro _ h3 ⟨rfl, K23⟩
  have K3 := K2.trans K23
  have W2 := Keeps.var (Ch.wf K2) K23 V2
  obtain ⟨_, _, _, _, _, r3⟩ := grid_load W2
  by_cases c1 : (o.l.length : Int) ≤ 20000
  case neg =>
    have d1 := decide_eq_false c1
    simp only [wk, wt, wl, ↓reduceIte, Nat.reduceEqDiff, Nat.reduceAdd, wz, d1, Bool.not_false]
    exact K3
  have d1 := decide_eq_true c1
  simp only [wk, wt, wl, ↓reduceIte, Nat.reduceEqDiff, Nat.reduceAdd, wz, d1, Bool.not_true, pt, r3]
  refine (few22_ok (B.keeps K3)).use ?_
  rintro _ h4 ⟨rfl, K34⟩
  have K4 := K3.trans K34
  have X1 := Keeps.var (Ch.wf K2) (K23.trans K34) V12
  have X2 := Keeps.var (Ch.wf K2) (K23.trans K34) V2
  obtain ⟨_, _, _, _, _, q4⟩ := grid_load X1
  obtain ⟨_, _, _, _, _, r4⟩ := grid_load X2
  by_cases c2 : (n.l.length : Int) ≤ 20000
  case neg =>
    have d2 := decide_eq_false c2
    simp only [wk, wt, wl, ↓reduceIte, Nat.reduceEqDiff, Nat.reduceAdd, wz, d2, Bool.not_false]
    exact K4
  have d2 := decide_eq_true c2
  simp only [wk, wt, wl, ↓reduceIte, Nat.reduceEqDiff, Nat.reduceAdd, wz, d2, Bool.not_true, pt, q4, r4]
  refine (emit_ok (A.keeps K4) (B.keeps K4) (by omega) (by omega) To Tn (G.keeps K4) (Gt0.keeps K4)).use ?_
  rintro bv h5 ⟨R5, _, K45⟩
  have K5 := K4.trans K45
  have T := emit_T (o := o) (n := n)
  have el := emit_len (o := o) (n := n) (by omega)
  simp only [wk, wt, wl, ↓reduceIte, Nat.reduceEqDiff, Nat.reduceAdd, wz]
  refine (may_ok R5 T T.isB (by omega)).use ?_
  rintro _ h6 ⟨rfl, K56⟩
  have K6 := K5.trans K56
  simp only [wk, wt, wl, ↓reduceIte, Nat.reduceEqDiff, Nat.reduceAdd, wz]
  refine (awake22_ok (G.keeps K6) (Gt0.keeps K6)).use ?_
  rintro _ h7 ⟨rfl, K67⟩
  simp only [wk, wt, wl, ↓reduceIte, Nat.reduceEqDiff, Nat.reduceAdd, wz]
  exact K6.trans K67
end Go.Proofs.YthmpaddhmgnkbaaDoor.Am
end
section
/- How many bytes emit tells at most, plain. -/
set_option linter.unusedSimpArgs false
set_option linter.unusedVariables false
set_option maxHeartbeats 4000000
namespace Go.Proofs.YthmpaddhmgnkbaaDoor.Am
open Go Go.RowKit Go.Proofs.Tryd
/-- A cell that is told and is no right half. -/
def fulB (o n : List Cel) (i : Nat) : Bool := toldB o n i && !bareB n i && decide (i < n.length)
def cntZ (q : Nat → Bool) (k : Nat) : Nat := ((List.range k).filter q).length
/-- Rows that have such a cell before a place. -/
def rowP (q : Nat → Bool) (C k r : Nat) : Bool := (List.range k).any fun i => q i && decide (i / C = r)
theorem cnt_succ (q : Nat → Bool) (k : Nat) : cntZ q (k + 1) = cntZ q k + if q k = true then 1 else 0 := by
  unfold cntZ
  rw [List.range_succ, List.filter_append, List.length_append]
  cases h : q k <;> simp [h]
theorem filter_le {p p' : Nat → Bool} (h : ∀ x, p x = true → p' x = true) : ∀ L : List Nat, (L.filter p).length ≤ (L.filter p').length
  | [] => Nat.le_refl _
  | x :: L => by
    have := filter_le h L
    cases hp : p x with
    | true => rw [List.filter_cons_of_pos hp, List.filter_cons_of_pos (h x hp)]; simp only [List.length_cons]; omega
    | false =>
      rw [List.filter_cons_of_neg (by rw [hp]; decide)]
      cases hp' : p' x with
      | true => rw [List.filter_cons_of_pos hp']; simp only [List.length_cons]; omega
      | false => rw [List.filter_cons_of_neg (by rw [hp']; decide)]; omega
theorem filter_lt {p p' : Nat → Bool} (h : ∀ x, p x = true → p' x = true) {y : Nat} (hp : p y = false) (hp' : p' y = true) : ∀ L : List Nat, y ∈ L → (L.filter p).length + 1 ≤ (L.filter p').length
  | [], hy => by cases hy
  | x :: L, hy => by
    by_cases e : x = y
    · subst e
      have := filter_le h L
      rw [List.filter_cons_of_neg (by rw [hp]; decide), List.filter_cons_of_pos hp']
      simp only [List.length_cons]; omega
    · have := filter_lt h hp hp' L (by rcases List.mem_cons.1 hy with h | h; exact absurd h.symm e; exact h)
      cases hpx : p x with
      | true => rw [List.filter_cons_of_pos hpx, List.filter_cons_of_pos (h x hpx)]; simp only [List.length_cons]; omega
      | false =>
        rw [List.filter_cons_of_neg (by rw [hpx]; decide)]
        cases hpx' : p' x with
        | true => rw [List.filter_cons_of_pos hpx']; simp only [List.length_cons]; omega
        | false => rw [List.filter_cons_of_neg (by rw [hpx']; decide)]; omega
/-- Those that are told are at most as many as changed ones. -/
theorem ful_cnt {o n : List Cel} {C : Int} (Q : RowQ C n) {q : Nat → Bool} (hq : ∀ i, chgB o n i = true → q i = true) : ∀ k, cntZ (fulB o n) k ≤ cntZ q k + if chgB o n k = true ∧ bareB n k = true then 1 else 0
  | 0 => by simp [cntZ]
  | k + 1 => by
    have ih := ful_cnt Q hq k
    rw [cnt_succ, cnt_succ]
    by_cases hc : chgB o n k = true
    · rw [if_pos (hq k hc)]
      by_cases hb : bareB n k = true
      · have : fulB o n k = false := by unfold fulB; rw [hb]; simp
        rw [this]
        rw [if_pos ⟨hc, hb⟩] at ih
        simp only [Bool.false_eq_true, if_false]
        split <;> omega
      · rw [if_neg (fun c => hb c.2)] at ih
        split <;> split <;> omega
    · rw [if_neg (fun c => hc c.1)] at ih
      cases hf : fulB o n k with
      | false =>
        simp only [Bool.false_eq_true, if_false]
        split <;> split <;> omega
      | true =>
        have ht : toldB o n k = true := by unfold fulB at hf; simp only [Bool.and_eq_true] at hf; exact hf.1.1
        unfold toldB at ht
        simp only [Bool.or_eq_true, Bool.and_eq_true, decide_eq_true_eq] at ht
        rcases ht with ht | ⟨⟨_, h2⟩, h3⟩
        · exact absurd ht hc
        · rw [if_pos rfl, if_pos (⟨h2, h3⟩ : chgB o n (k + 1) = true ∧ bareB n (k + 1) = true)]
          split <;> omega
/-- Rows of those are rows of changed ones. -/
theorem ful_row {o n : List Cel} {C : Nat} (hC : 2 ≤ C) (Q : RowQ (C : Int) n) {q : Nat → Bool} (hq : ∀ i, chgB o n i = true → q i = true) (r : Nat) (h : rowP (fulB o n) C n.length r = true) : rowP q C n.length r = true := by
  unfold rowP at h ⊢
  simp only [List.any_eq_true, List.mem_range, Bool.and_eq_true, decide_eq_true_eq] at h ⊢
  obtain ⟨i, hi, hf, hr⟩ := h
  unfold fulB toldB at hf
  simp only [Bool.or_eq_true, Bool.and_eq_true, decide_eq_true_eq] at hf
  rcases hf.1.1 with h1 | ⟨⟨h1, h2⟩, h3⟩
  · exact ⟨i, hi, hq i h1, hr⟩
  · refine ⟨i + 1, h1, hq _ h2, ?_⟩
    obtain ⟨c, e1, e2⟩ := bare_of h3
    obtain ⟨_, j, d, _, _, _, _, e3⟩ := Q.emp _ c e1 e2
    rw [← hr]
    have k1 := Nat.div_add_mod i C
    have k2 := Nat.div_add_mod (i + 1) C
    have m1 := Nat.mod_lt i (show 0 < C by omega)
    have e3' : (i + 1) % C ≠ 0 := fun c => e3 (by have : (((i + 1 : Nat) : Int) % (C : Int)) = (((i + 1) % C : Nat) : Int) := rfl; rw [this, c]; rfl)
    rcases Nat.lt_or_ge (i % C + 1) C with h | h
    · have : i + 1 = C * (i / C) + (i % C + 1) := by omega
      rw [this, Nat.mul_add_div (by omega), Nat.div_eq_of_lt h]; omega
    · exfalso
      apply e3'
      have : i + 1 = C * (i / C + 1) := by rw [Nat.mul_add]; omega
      rw [this, Nat.mul_mod_right]
end Go.Proofs.YthmpaddhmgnkbaaDoor.Am
end
section
/- How many bytes emit tells at most, plain: each cell, all cells. -/
set_option linter.unusedSimpArgs false
set_option linter.unusedVariables false
set_option maxHeartbeats 4000000
namespace Go.Proofs.YthmpaddhmgnkbaaDoor.Am
open Go Go.RowKit Go.Proofs.Tryd
theorem dig3 {n : Int} (h0 : 0 ≤ n) (h : n ≤ 999) : (digF 3 n).length ≤ 3 := by
  unfold digF
  split
  · simp
  · unfold digF
    split
    · simp
    · unfold digF
      split
      · simp
      · exfalso
        have : n / 10 / 10 ≤ 9 := by omega
        omega
theorem fwd6 {n : Int} (h0 : 0 ≤ n) (h : n ≤ 999) : (fwdL n).length ≤ 6 := by
  have := dig3 h0 h
  unfold fwdL
  simp only [List.length_append, List.length_cons, List.length_nil]
  omega
theorem enc3 {y : Int} (h : widthZ y = 0) : (encR y).length ≤ 3 := by
  have hz : zeroB y = true := by
    unfold widthZ at h
    split at h
    · assumption
    · split at h <;> omega
  simp only [zeroB, decide_eq_true_eq] at hz
  have hv : validB y = true := by simp [validB]; omega
  have he : encR y = encV y := by unfold encR fixR; rw [if_pos hv]
  rw [he]
  unfold encV
  split
  · simp
  · split
    · simp
    · split
      · simp
      · omega
theorem text10 {r : Int} {m : List Int} (hm : m.length ≤ 2) (h : ∀ y, y ∈ m → widthZ y = 0) : (encL (r :: m)).length ≤ 10 := by
  have h1 : (encR r).length ≤ 4 := by
    have := encL_len [r]
    simpa [encL] using this
  have h2 : ∀ m : List Int, (∀ y, y ∈ m → widthZ y = 0) → (encL m).length ≤ 3 * m.length := by
    intro m
    induction m with
    | nil => intro _; simp [encL]
    | cons y m ih =>
      intro hm
      have a := enc3 (hm y (by simp))
      have b := ih fun z hz => hm z (by simp [hz])
      simp only [encL, List.flatMap_cons, List.length_append, List.length_cons] at b ⊢
      omega
  have := h2 m h
  simp only [encL, List.flatMap_cons, List.length_append] at this ⊢
  omega
/-- Where the cursor is known to be, behind the last cell that was told. -/
def PosQ (n : GM) (f : Nat → Bool) (k : Nat) (O : OX) : Prop := ((∀ j, j < k → f j = false) ∧ O.pos = -1) ∨ ∃ j c r m, j < k ∧ f j = true ∧ (∀ i, i < k → f i = true → i ≤ j) ∧ n.l[j]? = some c ∧ c.tx = r :: m ∧ O.pos = (if ((j : Int) + widthZ r) % n.C = 0 then -1 else (j : Int) + widthZ r)
theorem goes6 {n : GM} {f : Nat → Bool} {O : OX} {k i C : Nat} {ck : Cel} (hn : wholeB n = true) (hC : n.C = (C : Int)) (P : PosQ n f k O) (hi : i < k) (fi : f i = true) (hr : i / C = k / C) (ek : n.l[k]? = some ck) (hk : ck.tx ≠ []) : (goesO O (k : Int) n.C).b.length ≤ O.b.length + 6 := by
  obtain ⟨_, hc, _⟩ := whole_of hn
  have Q := rowQ_of hn
  rcases P with ⟨P, _⟩ | ⟨j, c, r, m, hj, fj, hl, ej, et, hp⟩
  · rw [P i hi] at fi; cases fi
  have hij := hl i hi fi
  have hC2 : 2 ≤ C ∧ C ≤ 1000 := by omega
  have d1 : i / C ≤ j / C := Nat.div_le_div_right hij
  have d2 : j / C ≤ k / C := Nat.div_le_div_right (by omega)
  have dj : j / C = k / C := by omega
  obtain ⟨q1, q2⟩ := Q.full j c ej (by rw [et]; simp)
  obtain ⟨l1, l2, l3, _, _⟩ := let_of q1 et
  have wb := widthZ_le r
  obtain ⟨w, hw⟩ : ∃ w : Nat, widthZ r = (w : Int) := ⟨(widthZ r).toNat, by omega⟩
  have h12 : w = 1 ∨ w = 2 := by omega
  have k1 := Nat.div_add_mod j C
  have k2 := Nat.div_add_mod k C
  have m1 := Nat.mod_lt j (show 0 < C by omega)
  have m2 := Nat.mod_lt k (show 0 < C by omega)
  have hfit : j % C + w ≤ C ∧ j + w ≤ k := by
    rcases h12 with rfl | rfl
    · omega
    · have hwd : c.wd = true := by rw [l3, hw]; rfl
      obtain ⟨q3, d, q4, q5⟩ := q2 hwd
      rw [hC] at q3
      have q3' : ((j % C : Nat) : Int) < (C : Int) - 1 := q3
      refine ⟨by omega, ?_⟩
      by_cases e : k = j + 1
      · subst e
        rw [ek] at q4; cases q4
        exact absurd q5 hk
      · omega
  have k2' : k = C * (j / C) + k % C := by rw [dj]; omega
  have hlt : j % C + w < C := by omega
  have e1 : j + w = C * (j / C) + (j % C + w) := by omega
  have hmod : (j + w) % C = j % C + w := by rw [e1, Nat.mul_add_mod, Nat.mod_eq_of_lt hlt]
  have hdiv : (j + w) / C = k / C := by rw [e1, Nat.mul_add_div (by omega), Nat.div_eq_of_lt hlt, Nat.add_zero, dj]
  have hne : ¬ ((j : Int) + widthZ r) % n.C = 0 := fun e => by
    rw [hw, hC] at e
    have e' : (((j + w) % C : Nat) : Int) = 0 := e
    omega
  rw [if_neg hne, hw] at hp
  unfold goesO
  by_cases hpk : O.pos = (k : Int)
  · rw [if_pos hpk]; omega
  · rw [if_neg hpk]
    have hdv : (k : Int) / n.C = O.pos / n.C := by
      rw [hp, hC]
      have : ((k / C : Nat) : Int) = (((j + w) / C : Nat) : Int) := by rw [hdiv]
      exact this
    rw [if_pos ⟨by omega, by omega, hdv⟩]
    have := fwd6 (n := (k : Int) - O.pos) (by omega) (by omega)
    simp only [List.length_append]
    omega
theorem row_mono {f : Nat → Bool} {C k r : Nat} (h : rowP f C k r = true) : rowP f C (k + 1) r = true := by
  unfold rowP at h ⊢
  simp only [List.any_eq_true, List.mem_range] at h ⊢
  obtain ⟨i, hi, h⟩ := h
  exact ⟨i, by omega, h⟩
theorem PosQ.skip {n : GM} {f : Nat → Bool} {O : OX} {k : Nat} (P : PosQ n f k O) (hf : f k = false) : PosQ n f (k + 1) O := by
  rcases P with ⟨P, e⟩ | ⟨j, c, r, m, hj, fj, hl, ej, et, hp⟩
  · exact .inl ⟨fun j hj => by
      by_cases c : j = k
      · subst c; exact hf
      · exact P j (by omega), e⟩
  · refine .inr ⟨j, c, r, m, by omega, fj, fun i hi fi => ?_, ej, et, hp⟩
    by_cases c : i = k
    · subst c; rw [hf] at fi; cases fi
    · exact hl i (by omega) fi
/-- All the cells that are told. -/
theorem body_few {o n : GM} {O : OX} {C R : Nat} (hn : wholeB n = true) (hC : n.C = (C : Int)) (hR : n.R = (R : Int)) (hp : O.pos = -1) : ∀ k : Nat, k ≤ n.l.length →
    (((List.range k).filter (toldB o.l n.l)).foldl (cellO n) O).b.length ≤ O.b.length + 20 * cntZ (fulB o.l n.l) k + 6 * ((List.range R).filter (rowP (fulB o.l n.l) C k)).length ∧ PosQ n (fulB o.l n.l) k (((List.range k).filter (toldB o.l n.l)).foldl (cellO n) O)
  | 0, _ => ⟨by simp [cntZ], .inl ⟨fun j hj => by omega, hp⟩⟩
  | k + 1, hk => by
    obtain ⟨ih, P⟩ := body_few (o := o) (O := O) hn hC hR hp k (by omega)
    obtain ⟨hr, hc, hN, _, _, _⟩ := whole_of hn
    have Q := rowQ_of hn
    rw [List.range_succ, List.filter_append, List.foldl_append, cnt_succ]
    have hmono := filter_le (p := rowP (fulB o.l n.l) C k) (p' := rowP (fulB o.l n.l) C (k + 1)) (fun r h => row_mono h) (List.range R)
    generalize hO : ((List.range k).filter (toldB o.l n.l)).foldl (cellO n) O = O1 at *
    obtain ⟨c, e⟩ : ∃ c, n.l[k]? = some c := ⟨_, List.getElem?_eq_getElem (by omega)⟩
    cases ht : toldB o.l n.l k with
    | false =>
      have hf : fulB o.l n.l k = false := by unfold fulB; rw [ht]; rfl
      rw [List.filter_cons_of_neg (by rw [ht]; decide), hf]
      simp only [List.filter_nil, List.foldl_nil, Bool.false_eq_true, if_false]
      exact ⟨by omega, P.skip hf⟩
    | true =>
    rw [List.filter_cons_of_pos ht]
    simp only [List.filter_nil, List.foldl_cons, List.foldl_nil]
    cases hb : bareB n.l k with
    | true =>
      have hf : fulB o.l n.l k = false := by unfold fulB; rw [hb]; simp
      have hsame : cellO n O1 k = O1 := by
        obtain ⟨c', e1, e2⟩ := bare_of hb
        unfold cellO; rw [e1]; simp only [e2]
      rw [hf, hsame]
      simp only [Bool.false_eq_true, if_false]
      exact ⟨by omega, P.skip hf⟩
    | false =>
    have hf : fulB o.l n.l k = true := by unfold fulB; rw [ht, hb]; simp; omega
    rw [hf, if_pos rfl]
    have hne : c.tx ≠ [] := fun et => by
      rw [bare_mk e et] at hb; cases hb
    obtain ⟨r, m, et⟩ := List.exists_cons_of_ne_nil hne
    obtain ⟨q1, _⟩ := Q.full k c e hne
    obtain ⟨l1, l2, l3, l4, l5⟩ := let_of q1 et
    have tl := text10 (r := r) l4 l5
    have hcell : cellO n O1 k = ⟨(paintO (goesO O1 k n.C) c.ar).b ++ encL (r :: m), (paintO (goesO O1 k n.C) c.ar).attr, if ((k : Int) + widthZ r) % n.C = 0 then -1 else (k : Int) + widthZ r⟩ := by
      unfold cellO; rw [e]; simp only [et]
    have g2 : (paintO (goesO O1 k n.C) c.ar).b.length ≤ (goesO O1 k n.C).b.length + 4 := by
      unfold paintO
      split
      · omega
      · simp only; rw [List.length_append]; split <;> simp
    have g12 : (goesO O1 k n.C).b.length ≤ O1.b.length + 12 := by
      have pl := place_len (i := (k : Int)) (C := n.C)
      have fl := fwd_len (n := (k : Int) - O1.pos)
      unfold goesO
      split
      · omega
      · simp only; rw [List.length_append]; split <;> omega
    rw [hcell]
    refine ⟨?_, .inr ⟨k, c, r, m, by omega, hf, fun i hi _ => by omega, e, et, rfl⟩⟩
    simp only [List.length_append]
    cases hrow : rowP (fulB o.l n.l) C k (k / C) with
    | true =>
      unfold rowP at hrow
      simp only [List.any_eq_true, List.mem_range, Bool.and_eq_true, decide_eq_true_eq] at hrow
      obtain ⟨i, hi, fi, hr'⟩ := hrow
      have g6 := goes6 hn hC P hi fi hr' e hne
      omega
    | false =>
      have hkR : k / C < R := by
        have hN' : n.l.length = R * C := by rw [hC, hR] at hN; exact_mod_cast hN
        exact Nat.div_lt_of_lt_mul (by rw [Nat.mul_comm]; omega)
      have hnew : rowP (fulB o.l n.l) C (k + 1) (k / C) = true := by
        unfold rowP
        simp only [List.any_eq_true, List.mem_range, Bool.and_eq_true, decide_eq_true_eq]
        exact ⟨k, by omega, hf, rfl⟩
      have := filter_lt (p := rowP (fulB o.l n.l) C k) (p' := rowP (fulB o.l n.l) C (k + 1)) (fun r h => row_mono h) hrow hnew (List.range R) (List.mem_range.2 hkR)
      omega
end Go.Proofs.YthmpaddhmgnkbaaDoor.Am
end
