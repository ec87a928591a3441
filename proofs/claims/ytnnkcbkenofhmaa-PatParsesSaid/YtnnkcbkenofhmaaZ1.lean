/- The texts of this seat, one behind another (part 1 of 9): the frame (an abstract machine), the contracts of functions, the laws. -/
import Derived.Test.YtnnkcbkenofhmaaAmRecs
import Derived.Test.YtnnkcbkenofhmaaAmDefer
import Derived.Test.YtnnkcbkenofhmaaAmF
section
/- Patterns in plain terms: which parts a pattern has; no program in sight. -/
set_option linter.unusedSimpArgs false
set_option linter.unusedVariables false
namespace Go.Proofs.Ytnnkcbkenofhmaa.Am
open Go Go.RowKit Go.Proofs.Try
def kmax (x y : Int) : Int := if x < y then y else x
def kmin (x y : Int) : Int := if y < x then y else x
theorem kmax_spec (x y : Int) : x ≤ kmax x y ∧ y ≤ kmax x y ∧ (kmax x y = x ∨ kmax x y = y) := by unfold kmax; split <;> omega
theorem kmin_spec (x y : Int) : kmin x y ≤ x ∧ kmin x y ≤ y ∧ (kmin x y = x ∨ kmin x y = y) := by unfold kmin; split <;> omega
/-- A part of a pattern. -/
inductive Pat where
  | mk (k r : Int) (set : List (Int × Int)) (nt : Bool) (lo hi : Int) (ps : List Pat)
def Pat.kind : Pat → Int
  | .mk k _ _ _ _ _ _ => k
def pE : Pat := .mk 0 0 [] false 0 0 []
def pK (k : Int) : Pat := .mk k 0 [] false 0 0 []
def pR (r : Int) : Pat := .mk 1 r [] false 0 0 []
def pS (s : List (Int × Int)) (nt : Bool) : Pat := .mk 3 0 s nt 0 0 []
def pStar (lo hi : Int) (p : Pat) : Pat := .mk 10 0 [] false lo hi [p]
def pG (n : Int) (p : Pat) : Pat := .mk 11 0 [] false n 0 [p]
def pCat (l : List Pat) : Pat := match l with
  | [] => pE
  | [x] => x
  | l => .mk 8 0 [] false 0 0 l
def pAlt (l : List Pat) : Pat := match l with
  | [x] => x
  | l => .mk 9 0 [] false 0 0 l
/-- The rune at the beginning, the one behind it where it is a backslash, and how many these are. -/
def peekM (l : List Int) : Int × Int × Int := match l with
  | [] => (0, 0, 0)
  | [x] => (x, 0, 1)
  | x :: y :: _ => if x = 92 then (92, y, 2) else (x, 0, 1)
def endedM (l : List Int) : Bool := match l with
  | [] => true
  | x :: y :: _ => decide (x = 92 ∧ (y = 124 ∨ y = 41))
  | _ => false
def findM : List Int → Option Nat
  | [] => none
  | x :: l => if x = 93 then some 0 else (findM l).map (· + 1)
def spansM : Nat → List (Int × Int) → List Int → Except Int (List (Int × Int))
  | 0, _, _ => .error 0
  | n + 1, acc, l => match l with
    | [] => .ok acc
    | x :: 45 :: z :: t => if z < x then .error 5 else spansM n (acc ++ [(x, z)]) t
    | x :: t => spansM n (acc ++ [(x, x)]) t
/-- Behind the bracket of a set. -/
def setM (l : List Int) : Except Int (Pat × List Int) :=
  let nt := decide (l.head? = some 94)
  let l := if nt = true then l.tail else l
  match findM (l.drop 1) with
  | none => .error 10
  | some i => match spansM (i + 2) [] (l.take (i + 1)) with
    | .error e => .error e
    | .ok s => .ok (pS s nt, l.drop (i + 2))
def digM : Int → Bool → List Int → Int × List Int × Bool
  | n, ok, [] => (n, [], ok)
  | n, ok, x :: l => if 48 ≤ x ∧ x ≤ 57 then digM (kmin (n * 10 + (x - 48)) 101) true l else (n, x :: l, ok)
/-- The second count, if there is one. -/
def hiM (lo : Int) (l : List Int) : Int × List Int :=
  if l.head? = some 44 then (if (digM 0 false l.tail).2.2 = true then (digM 0 false l.tail).1 else -1, (digM 0 false l.tail).2.1) else (lo, l)
def endM (lo hi : Int) (l : List Int) : Except Int (Int × Int × List Int) := match l with
  | 92 :: 125 :: t => .ok (lo, hi, t)
  | _ => .error 10
/-- A repetition's counts, behind its bracket. -/
def timesM (l : List Int) : Except Int (Int × Int × List Int) :=
  if (digM 0 false l).2.2 = false then .error 11
  else if 100 < kmax (digM 0 false l).1 (hiM (digM 0 false l).1 (digM 0 false l).2.1).1 ∨ (0 ≤ (hiM (digM 0 false l).1 (digM 0 false l).2.1).1 ∧ (hiM (digM 0 false l).1 (digM 0 false l).2.1).1 < (digM 0 false l).1) then .error 11
  else endM (digM 0 false l).1 (hiM (digM 0 false l).1 (digM 0 false l).2.1).1 (hiM (digM 0 false l).1 (digM 0 false l).2.1).2
/-- A repetition, if there is one, of what is ahead. -/
def repM (p : Pat) (l : List Int) : Except Int (Option (Pat × List Int)) :=
  match peekM l with
  | (x, y, n) => if n = 1 ∧ x = 42 then .ok (some (pStar 0 (-1) p, l.drop 1))
    else if n < 2 ∨ y ≠ 123 then .ok none
    else match timesM (l.drop 2) with
      | .error e => .error e
      | .ok (lo, hi, t) => .ok (some (pStar lo hi p, t))
def repsM : Nat → Pat → List Int → Except Int (Pat × List Int)
  | 0, _, _ => .error 0
  | n + 1, p, l => if p.kind = 4 then .ok (p, l) else match repM p l with
    | .error e => .error e
    | .ok none => .ok (p, l)
    | .ok (some (q, t)) => repsM n q t
abbrev PRes := Except Int (Pat × List Int × Int)
def escM (grp : List Int → Int → PRes) (y : Int) (l : List Int) (g : Int) : PRes :=
  if y = 125 then .error 10
  else if y = 123 then .error 11
  else if y = 60 then .ok (pK 6, l.drop 2, g)
  else if y = 62 then .ok (pK 7, l.drop 2, g)
  else if y = 40 then grp (l.drop 2) g
  else .ok (pR y, l.drop 2, g)
def atomM (grp : List Int → Int → PRes) (first : Bool) (l : List Int) (g : Int) : PRes :=
  match peekM l with
  | (x, y, n) =>
    if x = 91 then (match setM (l.drop 1) with | .error e => .error e | .ok (p, t) => .ok (p, t, g))
    else if n = 2 then escM grp y l g
    else if x = 92 then .error 5
    else if x = 46 then .ok (pK 2, l.drop 1, g)
    else if x = 94 ∧ first = true then .ok (pK 4, l.drop 1, g)
    else if x = 36 ∧ endedM (l.drop 1) = true then .ok (pK 5, l.drop 1, g)
    else .ok (pR x, l.drop 1, g)
def pieM (grp : List Int → Int → PRes) : Nat → List Pat → List Int → Int → PRes
  | 0, _, _, _ => .error 0
  | n + 1, acc, l, g => if endedM l = true then .ok (pCat acc, l, g) else
    match atomM grp acc.isEmpty l g with
    | .error e => .error e
    | .ok (p, t, g') => match repsM (t.length + 1) p t with
      | .error e => .error e
      | .ok (q, u) => pieM grp n (acc ++ [q]) u g'
def barM (l : List Int) : Bool := match l with
  | x :: y :: _ => decide (x = 92 ∧ y = 124)
  | _ => false
def altsM (grp : List Int → Int → PRes) : Nat → List Pat → List Int → Int → PRes
  | 0, _, _, _ => .error 0
  | n + 1, acc, l, g => if barM l = true then (match pieM grp ((l.drop 2).length + 1) [] (l.drop 2) g with
      | .error e => .error e
      | .ok (p, t, g') => altsM grp n (acc ++ [p]) t g')
    else .ok (pAlt acc, l, g)
def altM (grp : List Int → Int → PRes) (l : List Int) (g : Int) : PRes :=
  match pieM grp (l.length + 1) [] l g with
  | .error e => .error e
  | .ok (p, t, g') => altsM grp (t.length + 1) [p] t g'
/-- A group, behind its bracket; so many more may be one within the other. -/
def grpM : Nat → List Int → Int → PRes
  | 0, _, _ => .error 12
  | k + 1, l, g => match altM (grpM k) l (g + 1) with
    | .error e => .error e
    | .ok (p, t, g') => if t.length = 0 then .error 10 else .ok (pG (g + 1) p, t.drop 2, g')
mutual
def sizeM : Pat → Int
  | .mk k _ _ _ lo hi ps => sizesM k lo hi 1 ps
def sizesM (k lo hi : Int) : Int → List Pat → Int
  | n, [] => n
  | n, p :: ps => sizesM k lo hi (kmin (n + (if k = 10 then sizeM p * kmax (kmax 1 lo) hi else sizeM p)) 401) ps
end
def parseM (l : List Int) : Except Int Pat :=
  match altM (grpM 16) l 0 with
  | .error e => .error e
  | .ok (p, t, _) => if 0 < t.length then .error 10 else if 400 < sizeM p then .error 12 else .ok p
mutual
def cntM : Pat → Int
  | .mk k _ _ _ _ _ ps => cntsM (if k = 11 then 1 else 0) ps
def cntsM : Int → List Pat → Int
  | n, [] => n
  | n, p :: ps => cntsM (n + cntM p) ps
end
example : parseM [97, 98, 42] = .ok (.mk 8 0 [] false 0 0 [pR 97, pStar 0 (-1) (pR 98)]) := by rfl
example : parseM [97, 92, 123, 50] = .error 10 := by rfl
example : parseM [92, 123, 50, 92, 125] = .error 11 := by rfl
end Go.Proofs.Ytnnkcbkenofhmaa.Am
end
section
/- Patterns in memory: parts, the program's reader; what is laid and built. -/
set_option linter.unusedSimpArgs false
set_option linter.unusedVariables false
set_option maxHeartbeats 4000000
set_option maxRecDepth 20000
namespace Go.Proofs.Ytnnkcbkenofhmaa.Am
open Go Go.RowKit Go.Proofs.Try
def intOf : Value → Int
  | .int _ x => x
  | _ => 0
theorem intOf_int {k : IntKind} {x : Int} : intOf (.int k x) = x := rfl
def pt (b : Nat) : Value := .pointer (some ⟨b, 0, none⟩)
theorem mxV {k : IntKind} {ts : Array TypeId} {x y : Int} : abuiltin prog .max ts #[.int k x, .int k y] = some (.int k (kmax x y)) := by simp [abuiltin, amm, kmax]
theorem mnV {k : IntKind} {ts : Array TypeId} {x y : Int} : abuiltin prog .min ts #[.int k x, .int k y] = some (.int k (kmin x y)) := by simp [abuiltin, amm, kmin]
theorem mxV3 {k : IntKind} {ts : Array TypeId} {x y z : Int} : abuiltin prog .max ts #[.int k x, .int k y, .int k z] = some (.int k (kmax (kmax x y) z)) := by simp [abuiltin, amm]; rfl
theorem dropAt {α : Type} {us : List α} {j : Nat} {u : α} (h : us[j]? = some u) : us.drop j = u :: us.drop (j + 1) := by
  obtain ⟨hj, e⟩ := List.getElem?_eq_some_iff.1 h
  rw [List.drop_eq_getElem_cons hj, e]
/-- A part's cells. -/
structure RC where
  k : Int
  r : Int
  sv : Value
  nt : Bool
  lo : Int
  hi : Int
  pv : Value
def reC (x : RC) : List Value := [.int .i64 x.k, .int .i32 x.r, x.sv, .bool x.nt, .int .i64 x.lo, .int .i64 x.hi, x.pv]
def reV (x : RC) : Value := .agg (reC x).toArray
def spC (x : Int × Int) : List Value := [.int .i64 x.1, .int .i64 x.2]
theorem reC_len (x : RC) : (reC x).length = 7 := rfl
theorem spC_len (x : Int × Int) : (spC x).length = 2 := rfl
def nilS : Value := .slice none 0 0
def rc0 : RC := ⟨0, 0, nilS, false, 0, 0, nilS⟩
mutual
/-- A part lies there; blocks that D tells hold nothing of it. -/
def ReR (h : Heap) (D : Nat → Prop) : Pat → RC → Prop
  | .mk k r set nt lo hi ps, c => c.k = k ∧ c.r = r ∧ c.nt = nt ∧ c.lo = lo ∧ c.hi = hi ∧ RS prog h 2 spC c.sv set ∧ (∀ b, blkOf c.sv = some b → ¬ D b) ∧ (∀ b, blkOf c.pv = some b → ¬ D b) ∧ ∃ l : List RC, RS prog h 7 reC c.pv l ∧ RePs h D ps l
def RePs (h : Heap) (D : Nat → Prop) : List Pat → List RC → Prop
  | [], l => l = []
  | p :: ps, l => ∃ c d, l = c :: d ∧ ReR h D p c ∧ RePs h D ps d
end
section
variable {h h' : Heap} {D E : Nat → Prop}
mutual
theorem ReR.ch (C : Ch E h h') (hd : ∀ b, E b → D b) : ∀ (p : Pat) (c : RC), ReR h D p c → ReR h' D p c
  | .mk k r set nt lo hi ps, c, R => by
    simp only [ReR] at R ⊢
    obtain ⟨a1, a2, a3, a4, a5, a6, a7, a8, l, a9, a10⟩ := R
    exact ⟨a1, a2, a3, a4, a5, Ch.rd C a6 fun b e x => a7 b e (hd b x), a7, a8, l, Ch.rd C a9 fun b e x => a8 b e (hd b x), RePs.ch C hd ps l a10⟩
theorem RePs.ch (C : Ch E h h') (hd : ∀ b, E b → D b) : ∀ (ps : List Pat) (l : List RC), RePs h D ps l → RePs h' D ps l
  | [], l, R => by simp only [RePs] at R ⊢; exact R
  | p :: ps, l, R => by
    simp only [RePs] at R ⊢
    obtain ⟨c, d, e, r1, r2⟩ := R
    exact ⟨c, d, e, ReR.ch C hd p c r1, RePs.ch C hd ps d r2⟩
end
mutual
/-- The same: what is new is not looked at. -/
theorem ReR.chN (C : Ch E h h') (hd : ∀ b, E b → D b ∨ h.size ≤ b) : ∀ (p : Pat) (c : RC), ReR h D p c → ReR h' D p c
  | .mk k r set nt lo hi ps, c, R => by
    simp only [ReR] at R ⊢
    obtain ⟨a1, a2, a3, a4, a5, a6, a7, a8, l, a9, a10⟩ := R
    exact ⟨a1, a2, a3, a4, a5, Ch.rd C a6 fun b e x => (hd b x).elim (a7 b e) (fun q => by have := (Rd.blk_lt a6 e).1; omega), a7, a8, l, Ch.rd C a9 fun b e x => (hd b x).elim (a8 b e) (fun q => by have := (Rd.blk_lt a9 e).1; omega), RePs.chN C hd ps l a10⟩
theorem RePs.chN (C : Ch E h h') (hd : ∀ b, E b → D b ∨ h.size ≤ b) : ∀ (ps : List Pat) (l : List RC), RePs h D ps l → RePs h' D ps l
  | [], l, R => by simp only [RePs] at R ⊢; exact R
  | p :: ps, l, R => by
    simp only [RePs] at R ⊢
    obtain ⟨c, d, e, r1, r2⟩ := R
    exact ⟨c, d, e, ReR.chN C hd p c r1, RePs.chN C hd ps d r2⟩
end
mutual
/-- Blocks that are not there yet hold nothing of it. -/
theorem ReR.up (hd : ∀ b, E b → D b ∨ h.size ≤ b) : ∀ (p : Pat) (c : RC), ReR h D p c → ReR h E p c
  | .mk k r set nt lo hi ps, c, R => by
    simp only [ReR] at R ⊢
    obtain ⟨a1, a2, a3, a4, a5, a6, a7, a8, l, a9, a10⟩ := R
    exact ⟨a1, a2, a3, a4, a5, a6, fun b e x => (hd b x).elim (a7 b e) (fun q => by have := (Rd.blk_lt a6 e).1; omega), fun b e x => (hd b x).elim (a8 b e) (fun q => by have := (Rd.blk_lt a9 e).1; omega), l, a9, RePs.up hd ps l a10⟩
theorem RePs.up (hd : ∀ b, E b → D b ∨ h.size ≤ b) : ∀ (ps : List Pat) (l : List RC), RePs h D ps l → RePs h E ps l
  | [], l, R => by simp only [RePs] at R ⊢; exact R
  | p :: ps, l, R => by
    simp only [RePs] at R ⊢
    obtain ⟨c, d, e, r1, r2⟩ := R
    exact ⟨c, d, e, ReR.up hd p c r1, RePs.up hd ps d r2⟩
end
mutual
theorem ReR.reads (K : Reads h h') (hs : h.size ≤ h'.size) : ∀ (p : Pat) (c : RC), ReR h D p c → ReR h' D p c
  | .mk k r set nt lo hi ps, c, R => by
    simp only [ReR] at R ⊢
    obtain ⟨a1, a2, a3, a4, a5, a6, a7, a8, l, a9, a10⟩ := R
    exact ⟨a1, a2, a3, a4, a5, Rd.reads a6 hs K, a7, a8, l, Rd.reads a9 hs K, RePs.reads K hs ps l a10⟩
theorem RePs.reads (K : Reads h h') (hs : h.size ≤ h'.size) : ∀ (ps : List Pat) (l : List RC), RePs h D ps l → RePs h' D ps l
  | [], l, R => by simp only [RePs] at R ⊢; exact R
  | p :: ps, l, R => by
    simp only [RePs] at R ⊢
    obtain ⟨c, d, e, r1, r2⟩ := R
    exact ⟨c, d, e, ReR.reads K hs p c r1, RePs.reads K hs ps d r2⟩
end
mutual
theorem ReR.weak (hd : ∀ b, E b → D b) : ∀ (p : Pat) (c : RC), ReR h D p c → ReR h E p c
  | .mk k r set nt lo hi ps, c, R => by
    simp only [ReR] at R ⊢
    obtain ⟨a1, a2, a3, a4, a5, a6, a7, a8, l, a9, a10⟩ := R
    exact ⟨a1, a2, a3, a4, a5, a6, fun b e x => a7 b e (hd b x), fun b e x => a8 b e (hd b x), l, a9, RePs.weak hd ps l a10⟩
theorem RePs.weak (hd : ∀ b, E b → D b) : ∀ (ps : List Pat) (l : List RC), RePs h D ps l → RePs h E ps l
  | [], l, R => by simp only [RePs] at R ⊢; exact R
  | p :: ps, l, R => by
    simp only [RePs] at R ⊢
    obtain ⟨c, d, e, r1, r2⟩ := R
    exact ⟨c, d, e, ReR.weak hd p c r1, RePs.weak hd ps d r2⟩
end
theorem RePs.snoc : ∀ {ps : List Pat} {l : List RC} {p : Pat} {c : RC}, RePs h D ps l → ReR h D p c → RePs h D (ps ++ [p]) (l ++ [c])
  | [], l, p, c, R, S => by
    simp only [RePs] at R
    subst R
    exact ⟨c, [], rfl, S, rfl⟩
  | q :: ps, l, p, c, R, S => by
    simp only [RePs] at R
    obtain ⟨x, d, rfl, r1, r2⟩ := R
    exact ⟨x, d ++ [c], rfl, r1, RePs.snoc r2 S⟩
theorem RePs.len : ∀ {ps : List Pat} {l : List RC}, RePs h D ps l → l.length = ps.length
  | [], l, R => by simp only [RePs] at R; subst R; rfl
  | p :: ps, l, R => by
    simp only [RePs] at R
    obtain ⟨c, d, rfl, _, r2⟩ := R
    simp [RePs.len r2]
theorem RePs.at : ∀ {ps : List Pat} {l : List RC} {i : Nat} {p : Pat}, RePs h D ps l → ps[i]? = some p → ∃ c, l[i]? = some c ∧ ReR h D p c
  | [], l, i, p, R, e => by simp at e
  | q :: ps, l, i, p, R, e => by
    simp only [RePs] at R
    obtain ⟨c, d, rfl, r1, r2⟩ := R
    cases i with
    | zero => simp at e; subst e; exact ⟨c, rfl, r1⟩
    | succ i => simp at e; obtain ⟨x, hx, hr⟩ := RePs.at r2 e; exact ⟨x, by simpa using hx, hr⟩
theorem RePs.one {c : RC} {p : Pat} (R : ReR h D p c) : RePs h D [p] [c] := ⟨c, [], rfl, R, rfl⟩
theorem nil_av {b : Nat} : blkOf nilS = some b → ¬ D b := fun e => by cases e
theorem RS.nil {s : Nat} {α : Type} {f : α → List Value} : RS prog h s f nilS ([] : List α) := Rd.nil0
theorem ReR.one1 {p : Pat} {c : RC} (R : ReR h D p c) : one c.sv = true ∧ one c.pv = true := by
  obtain ⟨k, r, set, nt, lo, hi, ps⟩ := p
  simp only [ReR] at R
  obtain ⟨a1, a2, a3, a4, a5, a6, a7, a8, l, a9, a10⟩ := R
  exact ⟨Rd.one a6, Rd.one a9⟩
theorem ReR.kind {p : Pat} {c : RC} (R : ReR h D p c) : c.k = p.kind := by
  obtain ⟨k, r, set, nt, lo, hi, ps⟩ := p
  simp only [ReR] at R
  exact R.1
/-- Parts without others. -/
theorem ReR.k {k : Int} : ReR h D (pK k) { rc0 with k := k } := by
  exact ⟨rfl, rfl, rfl, rfl, rfl, RS.nil, (fun _ e => by cases e), (fun _ e => by cases e), [], RS.nil, rfl⟩
theorem ReR.r {r : Int} : ReR h D (pR r) { rc0 with k := 1, r := r } := by
  exact ⟨rfl, rfl, rfl, rfl, rfl, RS.nil, (fun _ e => by cases e), (fun _ e => by cases e), [], RS.nil, rfl⟩
theorem ReR.e : ReR h D pE rc0 := by
  exact ⟨rfl, rfl, rfl, rfl, rfl, RS.nil, (fun _ e => by cases e), (fun _ e => by cases e), [], RS.nil, rfl⟩
/-- A part of parts. -/
theorem ReR.ps {k lo hi : Int} {ps : List Pat} {l : List RC} {pv : Value} (S : RS prog h 7 reC pv l) (hp : ∀ b, blkOf pv = some b → ¬ D b) (R : RePs h D ps l) : ReR h D (.mk k 0 [] false lo hi ps) { rc0 with k := k, lo := lo, hi := hi, pv := pv } := by
  exact ⟨rfl, rfl, rfl, rfl, rfl, RS.nil, (fun _ e => by cases e), hp, l, S, R⟩
end
theorem reV_cells {x : RC} : (reV x).cells = (reC x).toArray := rfl
theorem reV_cellsL {x : RC} : (reV x).cells.toList = reC x := rfl
theorem reV_one {x : RC} (h1 : one x.sv = true) (h2 : one x.pv = true) : (reV x).cells.all one = true := by
  rw [reV_cells]; simp [reC, h1, h2, one_int, one_bool]
theorem azRe : azero prog 26 = some (reV rc0) := azero26
theorem newRe {h : Heap} : h.new 26 [.int .i64 0, .int .i32 0, .slice none 0 0, .bool false, .int .i64 0, .int .i64 0, .slice none 0 0] = h.new 26 (reC rc0) := congrArg (h.new 26) (show _ = reC rc0 from rfl)
theorem newSz {h : Heap} {e : TypeId} {cs : List Value} : (h.new e cs).size = h.size + 1 := by have := new_size (h := h) (e := e) (cs := cs); omega
/-- What a variable of a part holds. -/
theorem Var.re {h : Heap} {b : Nat} {c : RC} (V : Var h b (reC c)) : aload prog h 26 ⟨b, 0, none⟩ = some (reV c) := V.loadA (P := prog) (t := 26) underlying26 rfl asz26
/-- A part is put into a variable. -/
theorem Var.put {h : Heap} {b : Nat} {c : RC} (V : Var h b (reC c)) (H : Wf h) {d : RC} (h1 : one d.sv = true) (h2 : one d.pv = true) :
    ∃ h', storeV prog h 26 (.pointer (some ⟨b, 0, none⟩)) (reV d) = some (undef, h') ∧ Var h' b (reC d) ∧ Ch (fun x => x = b) h h' ∧ h'.size = h.size := by
  obtain ⟨h9, e9, V9, r⟩ := V.store (P := prog) (t := 26) (v := reV d) (i := 0) H asz26 (by rw [reV_cells]; simp [reC]) (reV_one h1 h2)
  rw [reV_cellsL, over_all (by rfl)] at V9
  exact ⟨h9, e9, V9, r⟩
theorem bsRe {h : Heap} {c : RC} (h1 : one c.sv = true) (h2 : one c.pv = true) : abuildSlice prog h 24 1 #[(0, reV c)] = some (.slice (some ⟨h.size, 0, none⟩) 1 2, h.new 26 (reC c)) :=
  buildA7 underlying24 asz26 azRe rfl rfl rfl h1 rfl rfl rfl h2
theorem build_re0 : abuild prog 26 #[] = some (reV rc0) := by simp [abuild, wt, aplaces, Instr.fill, Value.cells]; rfl
theorem build_rek {k : Int} : abuild prog 26 #[(0, .int .i64 k)] = some (reV { rc0 with k := k }) := by simp [abuild, wt, aplaces, Instr.fill, Value.cells]; rfl
theorem build_rer {k r : Int} : abuild prog 26 #[(0, .int .i64 k), (1, .int .i32 r)] = some (reV { rc0 with k := k, r := r }) := by simp [abuild, wt, aplaces, Instr.fill, Value.cells]; rfl
theorem build_relo {k lo : Int} : abuild prog 26 #[(0, .int .i64 k), (4, .int .i64 lo)] = some (reV { rc0 with k := k, lo := lo }) := by simp [abuild, wt, aplaces, Instr.fill, Value.cells]; rfl
theorem build_rep {k : Int} {pv : Value} (h1 : one pv = true) : abuild prog 26 #[(0, .int .i64 k), (6, pv)] = some (reV { rc0 with k := k, pv := pv }) := by simp [abuild, wt, aplaces, Instr.fill, one_cells h1, h1]; rfl
theorem build_rehp {k hi : Int} {pv : Value} (h1 : one pv = true) : abuild prog 26 #[(0, .int .i64 k), (5, .int .i64 hi), (6, pv)] = some (reV { rc0 with k := k, hi := hi, pv := pv }) := by simp [abuild, wt, aplaces, Instr.fill, one_cells h1, h1]; rfl
theorem build_relhp {k lo hi : Int} {pv : Value} (h1 : one pv = true) : abuild prog 26 #[(0, .int .i64 k), (4, .int .i64 lo), (5, .int .i64 hi), (6, pv)] = some (reV { rc0 with k := k, lo := lo, hi := hi, pv := pv }) := by simp [abuild, wt, aplaces, Instr.fill, one_cells h1, h1]; rfl
theorem build_relp {k lo : Int} {pv : Value} (h1 : one pv = true) : abuild prog 26 #[(0, .int .i64 k), (4, .int .i64 lo), (6, pv)] = some (reV { rc0 with k := k, lo := lo, pv := pv }) := by simp [abuild, wt, aplaces, Instr.fill, one_cells h1, h1]; rfl
theorem build_fault {e : Int} : abuild prog 42 #[(0, .int .i64 e)] = some (.agg #[.int .i64 e]) := by simp [abuild, wt, aplaces, Instr.fill, Value.cells]
theorem conc_fault : prog.concrete 42 = true := by kernel_rfl
/-- What the reader gives up with. -/
def flt (e : Int) : Value := .iface 42 (.agg #[.int .i64 e])
/-- The program's reader: what is left (of the row of block pb), how many groups there were, how many are open. -/
def RD (h : Heap) (rb pb : Nat) (l : List Int) (g o : Int) : Prop := ∃ rv, Var h rb [rv, .int .i64 g, .int .i64 o] ∧ RdI prog h .i32 rv l ∧ (∀ b, blkOf rv = some b → b = pb) ∧ pb ≠ rb ∧ pb < h.size
abbrev Bx (rb : Nat) : Nat → Prop := fun b => b = rb
abbrev Lt (m : Nat) : Nat → Prop := fun b => b < m
theorem RD.ch {h h' : Heap} {rb pb : Nat} {l : List Int} {g o : Int} {D : Nat → Prop} (R : RD h rb pb l g o) (H : Wf h) (C : Ch D h h') (h1 : ¬ D rb) (h2 : ¬ D pb) : RD h' rb pb l g o := by
  obtain ⟨rv, V, S, hb, e1, e2⟩ := R
  exact ⟨rv, Ch.var H C V h1, Ch.rd C S fun b e f => h2 (by rw [← hb b e]; exact f), hb, e1, Nat.lt_of_lt_of_le e2 (Ch.le C)⟩
theorem RD.keeps {h h' : Heap} {rb pb : Nat} {l : List Int} {g o : Int} (R : RD h rb pb l g o) (H : Wf h) (K : Keeps h h') : RD h' rb pb l g o := R.ch H K id id
theorem RD.lt {h : Heap} {rb pb : Nat} {l : List Int} {g o : Int} (R : RD h rb pb l g o) (H : Wf h) : rb < h.size ∧ pb < h.size ∧ pb ≠ rb := by
  obtain ⟨rv, V, _, _, e1, e2⟩ := R; exact ⟨V.lt H, e2, e1⟩
/-- How much is left. -/
def restN (rb : Nat) (h : Heap) : Nat := match h.get rb with | some k => (match k.cells with | .slice _ n _ :: _ => n | _ => 0) | none => 0
theorem Rd.num {h : Heap} {s n : Nat} {v : Value} {cs : List Value} (R : Rd prog h s v n cs) : ∃ a c, v = .slice a n c := by
  obtain ⟨_, ⟨rfl, rfl | rfl⟩ | ⟨b, o, c, k, rfl, _⟩⟩ := R
  · exact ⟨_, _, rfl⟩
  · exact ⟨_, _, rfl⟩
  · exact ⟨_, _, rfl⟩
theorem RD.num {h : Heap} {rb pb : Nat} {l : List Int} {g o : Int} (R : RD h rb pb l g o) : restN rb h = l.length := by
  obtain ⟨rv, ⟨k, h1, h2, _⟩, S, _⟩ := R
  obtain ⟨a, c, rfl⟩ := Rd.num S
  simp [restN, h1, h2]
theorem aops_mono {P : Program} {all : Array Oper} {Q Q' : Exit → Tm → Heap → Prop} (hq : ∀ e tm h, Q e tm h → Q' e tm h) : ∀ (l : List Oper) (tm : Tm) (h : Heap), aops P all Q l tm h → aops P all Q' l tm h
  | [], tm, h, H => hq _ _ _ H
  | o :: l, tm, h, H => gate_mono (fun hs => stepV_mono hs (fun v h' => aops_mono hq l _ _) (fun v h' => hq _ _ _)) (aops_mono hq l _ _) H
theorem thenK_mono {K K' : Tm → Heap → Prop} {Q Q' : Exit → Tm → Heap → Prop} (hk : ∀ tm h, K tm h → K' tm h) (hq : ∀ e tm h, Q e tm h → Q' e tm h) : ∀ e tm h, thenK K Q e tm h → thenK K' Q' e tm h := fun e tm h H => by
  cases e <;> first | exact hk _ _ H | exact hq _ _ _ H
theorem W_mono {P : Program} {n : Nat} : ∀ (c : Code) {Q Q' : Exit → Tm → Heap → Prop} (hq : ∀ e tm h, Q e tm h → Q' e tm h) (tm : Tm) (h : Heap), W P n c Q tm h → W P n c Q' tm h := by
  intro c
  induction c with
  | skip => exact fun hq tm h H => hq _ _ _ H
  | label l => exact fun hq tm h H => hq _ _ _ H
  | region id ops draw =>
    intro Q Q' hq tm h H
    cases draw with
    | false => exact aops_mono hq _ _ _ H
    | true => exact fun id => AWp.mono (H id) hq
  | seq a b iha ihb => exact fun hq tm h H => iha (thenK_mono (fun tm h => ihb hq tm h) hq) tm h H
  | cond c a b iha ihb =>
    intro Q Q' hq tm h H
    unfold W at H ⊢
    split
    · rename_i t ht
      rw [ht] at H
      exact ⟨fun e => iha hq tm h (H.1 e), fun e => ihb hq tm h (H.2 e)⟩
    · rename_i hn
      split at H
      · rename_i t ht; exact absurd ht (hn t)
      · exact H
  | block id b ih =>
    intro Q Q' hq tm h H
    refine ih (fun e tm h q => ?_) tm h H
    cases e with
    | exit i =>
      simp only [blockK] at q ⊢
      by_cases c : i = id
      · rw [if_pos c] at q ⊢; exact hq _ _ _ q
      · rw [if_neg c] at q ⊢; exact hq _ _ _ q
    | _ => exact hq _ _ _ q
  | loop b ih =>
    rintro Q Q' hq tm h ⟨I, μ, h0, hr⟩
    exact ⟨I, μ, h0, fun tm h hi => ih (thenK_mono (fun _ _ q => q) hq) tm h (hr tm h hi)⟩
  | exit id => exact fun hq tm h H => hq _ _ _ H
  | ret => exact fun hq tm h H => hq _ _ _ H
  | scope b ih => exact fun hq tm h H => ih hq tm h H
  | rangeFunc f ps x b _ _ => exact fun hq tm h H => fun w0 ρ w a hr t => wpIn_mono (H w0 ρ w a hr t) fun e a w p => p.mono (RenLe.refl _) (DT.refl _ _) hq
  | _ => exact fun hq tm h H => H.elim
/-- A loop whose measure is told beside its relation. -/
theorem W_loopI {P : Program} {n : Nat} {b : Code} {Q : Exit → Tm → Heap → Prop} {tm : Tm} {h : Heap} (I : Nat → Tm → Heap → Prop) (h0 : ∃ k, I k tm h) (hr : ∀ k tm h, I k tm h → W P n b (thenK (fun tm' h' => ∃ k', k' < k ∧ I k' tm' h') Q) tm h) : W P n (.loop b) Q tm h := by
  have hex : ∀ tm h, (∃ k, I k tm h) → ∃ k, I k tm h ∧ ∀ j, I j tm h → k ≤ j := fun tm h ⟨k, hk⟩ => by
    induction k using Nat.strongRecOn with
    | _ k ih =>
      by_cases hx : ∃ j, j < k ∧ I j tm h
      · obtain ⟨j, hj, hij⟩ := hx; exact ih j hj hij
      · exact ⟨k, hk, fun j hj => Nat.le_of_not_lt fun hlt => hx ⟨j, hlt, hj⟩⟩
  refine W_loop (fun tm h => ∃ k, I k tm h) (fun tm h => open Classical in if hx : ∃ k, I k tm h then (hex tm h hx).choose else 0) h0 fun tm h hi => ?_
  have hc := (hex tm h hi).choose_spec
  refine W_mono b (thenK_mono ?_ (fun _ _ _ q => q)) tm h (hr _ tm h hc.1)
  rintro tm' h' ⟨k', hlt, hk'⟩
  have hi' : ∃ k, I k tm' h' := ⟨k', hk'⟩
  refine ⟨hi', ?_⟩
  simp only [dif_pos hi, dif_pos hi']
  exact Nat.lt_of_le_of_lt ((hex tm' h' hi').choose_spec.2 k' hk') hlt
end Go.Proofs.Ytnnkcbkenofhmaa.Am
end
section
/- Patterns, the program: contracts of peek, ended, digits, by walks. -/
set_option linter.unusedSimpArgs false
set_option linter.unusedVariables false
set_option maxHeartbeats 4000000
set_option maxRecDepth 20000
namespace Go.Proofs.Ytnnkcbkenofhmaa.Am
open Go Go.RowKit Go.Proofs.Try
theorem RdI.ix {h : Heap} {v : Value} {l : List Int} (S : RdI prog h .i32 v l) {i : Nat} {x : Int} (hx : l[i]? = some x) :
    aindexAddr prog 22 v (.int .i64 (i : Int)) = some (.pointer (some (eltA v 1 i))) ∧ aload prog h 21 (eltA v 1 i) = some (.int .i32 x) := by
  obtain ⟨hi, e⟩ := List.getElem?_eq_some_iff.1 hx
  have h1 := S.index underlying22 asz21 (q := .i64) (i := (i : Int)) (by omega) (by omega)
  have h2 := S.at (i := i) (t := 21) underlying21 rfl hi
  rw [Int.toNat_natCast] at h1
  rw [List.getD_eq_getElem?_getD, hx, Option.getD_some] at h2
  exact ⟨h1, h2⟩
theorem RdI.ln {h : Heap} {v : Value} {l : List Int} (S : RdI prog h .i32 v l) {n : Int} (hn : (l.length : Int) = n) : abuiltin prog .len #[22] #[v] = some (.int .i64 n) := by
  rw [← hn]; exact S.len underlying22
/-- What is left behind the first k runes. -/
theorem RdI.lo {h : Heap} {v : Value} {l : List Int} (S : RdI prog h .i32 v l) {k : Nat} (hk : k ≤ l.length) :
    aslice prog h 22 v (some (.int .i64 (k : Int))) none none = some (sliceV v 1 k l.length) ∧ RdI prog h .i32 (sliceV v 1 k l.length) (l.drop k) ∧ blkOf (sliceV v 1 k l.length) = blkOf v := by
  have h1 := Rd.sliceLo S underlying22 asz21 (q := .i64) (i := (k : Int)) (by omega) (by omega)
  rw [Int.toNat_natCast] at h1
  exact ⟨h1, S.partLo hk, sliceV_blk⟩
def peekV (l : List Int) : Value := .tuple #[.int .i32 (peekM l).1, .int .i32 (peekM l).2.1, .int .i64 (peekM l).2.2]
theorem Var.ld {h : Heap} {rb : Nat} {a b c : Value} (V : Var h rb [a, b, c]) : aload prog h 22 ⟨rb, 0, none⟩ = some a ∧ aload prog h 3 ⟨rb, 1, none⟩ = some b ∧ aload prog h 3 ⟨rb, 2, none⟩ = some c :=
  ⟨V.load1 (P := prog) (t := 22) underlying22 rfl (i := 0), V.load1 (P := prog) (t := 3) underlying3 rfl (i := 1), V.load1 (P := prog) (t := 3) underlying3 rfl (i := 2)⟩
theorem peek_ok {h : Heap} {rb pb : Nat} {l : List Int} {g o : Int} (R : RD h rb pb l g o) : ACalls prog 28 #[pt rb] h (fun y h' => y = peekV l ∧ h' = h) := by
  refine acalls_of_W func28 rfl (by kernel_rfl) (by kernel_rfl) (by simp [ntmps28]) ?_
  obtain ⟨rv, V, S, hb⟩ := R
  obtain ⟨L0, _, _⟩ := V.ld
  rcases l with _ | ⟨x, _ | ⟨y, t⟩⟩
  · have LN := S.ln (n := 0) rfl
    have d0 : decide ((0 : Int) = 0) = true := rfl
    simp only [wk, wt, wl, ↓reduceIte, Nat.reduceEqDiff, Nat.reduceAdd, Nat.zero_add, not_false_eq_true, not_true_eq_false, pt, L0, LN, d0]
    exact ⟨rfl, trivial⟩
  · have LN := S.ln (n := 1) rfl
    have d0 : decide ((1 : Int) = 0) = false := rfl
    have d1 : decide ((1 : Int) = 1) = true := rfl
    have IX : aindexAddr prog 22 rv (.int .i64 0) = _ := (S.ix (i := 0) rfl).1
    have LX := (S.ix (i := 0) rfl).2
    by_cases c : x = 92
    · have d2 := decide_eq_true c
      have d2' : decide (¬ x = 92) = false := by simp [c]
      simp only [wk, wt, wl, ↓reduceIte, Nat.reduceEqDiff, Nat.reduceAdd, Nat.zero_add, not_false_eq_true, not_true_eq_false, pt, L0, LN, d0, IX, LX, d2, d2', d1]
      subst c; exact ⟨rfl, trivial⟩
    · have d2 := decide_eq_false c
      have d2' : decide (¬ x = 92) = true := by simp [c]
      simp only [wk, wt, wl, ↓reduceIte, Nat.reduceEqDiff, Nat.reduceAdd, Nat.zero_add, not_false_eq_true, not_true_eq_false, pt, L0, LN, d0, IX, LX, d2, d2', d1]
      exact ⟨rfl, trivial⟩
  · have LN := S.ln (n := (t.length : Int) + 2) (by simp; omega)
    have d0 : decide ((t.length : Int) + 2 = 0) = false := decide_eq_false (by omega)
    have d1 : decide ((t.length : Int) + 2 = 1) = false := decide_eq_false (by omega)
    have IX : aindexAddr prog 22 rv (.int .i64 0) = _ := (S.ix (i := 0) rfl).1
    have LX := (S.ix (i := 0) rfl).2
    have IY : aindexAddr prog 22 rv (.int .i64 1) = _ := (S.ix (i := 1) rfl).1
    have LY := (S.ix (i := 1) rfl).2
    by_cases c : x = 92
    · have d2' : decide (¬ x = 92) = false := by simp [c]
      simp only [wk, wt, wl, ↓reduceIte, Nat.reduceEqDiff, Nat.reduceAdd, Nat.zero_add, not_false_eq_true, not_true_eq_false, pt, L0, LN, d0, IX, LX, d2', d1]
      refine adraw_order [(0, false), (1, false), (2, false), (3, false), (4, false), (5, false), (6, false), (7, false), (8, false)] mixed (by kernel_rfl) (by kernel_rfl) (by kernel_rfl) (by with_reducible repeat (first | exact PF_retK | refine PF_thenK ?_ | refine PF_blockK ?_)) ?_
      simp only [wk, wt, wl, ↓reduceIte, Nat.reduceEqDiff, Nat.reduceAdd, Nat.zero_add, not_false_eq_true, not_true_eq_false, pt, L0, IY, LY]
      subst c; exact ⟨rfl, trivial⟩
    · have d2' : decide (¬ x = 92) = true := by simp [c]
      simp only [wk, wt, wl, ↓reduceIte, Nat.reduceEqDiff, Nat.reduceAdd, Nat.zero_add, not_false_eq_true, not_true_eq_false, pt, L0, LN, d0, IX, LX, d2', d1]
      refine ⟨?_, trivial⟩
      simp only [peekV, peekM]
      rw [if_neg c]
theorem ended_ok {h : Heap} {v : Value} {l : List Int} (S : RdI prog h .i32 v l) : ACalls prog 32 #[v] h (fun y h' => y = .bool (endedM l) ∧ h' = h) := by
  refine acalls_of_W func32 rfl (by kernel_rfl) (by kernel_rfl) (by simp [ntmps32]) ?_
  rcases l with _ | ⟨x, _ | ⟨y, t⟩⟩
  · have LN := S.ln (n := 0) rfl
    have d0 : decide ((0 : Int) = 0) = true := rfl
    simp only [wk, wt, wl, ↓reduceIte, Nat.reduceEqDiff, Nat.reduceAdd, Nat.zero_add, not_false_eq_true, not_true_eq_false, LN, d0]
    exact ⟨rfl, trivial⟩
  · have LN := S.ln (n := 1) rfl
    have d0 : decide ((1 : Int) = 0) = false := rfl
    have d1 : decide ((1 : Int) < 1) = false := rfl
    simp only [wk, wt, wl, ↓reduceIte, Nat.reduceEqDiff, Nat.reduceAdd, Nat.zero_add, not_false_eq_true, not_true_eq_false, LN, d0, d1]
    exact ⟨rfl, trivial⟩
  · have LN := S.ln (n := (t.length : Int) + 2) (by simp; omega)
    have d0 : decide ((t.length : Int) + 2 = 0) = false := decide_eq_false (by omega)
    have d1 : decide (1 < (t.length : Int) + 2) = true := decide_eq_true (by omega)
    have IX : aindexAddr prog 22 v (.int .i64 0) = _ := (S.ix (i := 0) rfl).1
    have LX := (S.ix (i := 0) rfl).2
    have IY : aindexAddr prog 22 v (.int .i64 1) = _ := (S.ix (i := 1) rfl).1
    have LY := (S.ix (i := 1) rfl).2
    by_cases c : x = 92
    · have d2 := decide_eq_true c
      by_cases c1 : y = 124
      · have d3 := decide_eq_true c1
        simp only [wk, wt, wl, ↓reduceIte, Nat.reduceEqDiff, Nat.reduceAdd, Nat.zero_add, not_false_eq_true, not_true_eq_false, LN, d0, d1, IX, LX, d2, IY, LY, d3]
        exact ⟨by simp [endedM, c, c1], trivial⟩
      · have d3 := decide_eq_false c1
        by_cases c2 : y = 41
        · have d4 := decide_eq_true c2
          simp only [wk, wt, wl, ↓reduceIte, Nat.reduceEqDiff, Nat.reduceAdd, Nat.zero_add, not_false_eq_true, not_true_eq_false, LN, d0, d1, IX, LX, d2, IY, LY, d3, d4]
          exact ⟨by simp [endedM, c, c2], trivial⟩
        · have d4 := decide_eq_false c2
          simp only [wk, wt, wl, ↓reduceIte, Nat.reduceEqDiff, Nat.reduceAdd, Nat.zero_add, not_false_eq_true, not_true_eq_false, LN, d0, d1, IX, LX, d2, IY, LY, d3, d4]
          exact ⟨by simp [endedM, c, c1, c2], trivial⟩
    · have d2 := decide_eq_false c
      simp only [wk, wt, wl, ↓reduceIte, Nat.reduceEqDiff, Nat.reduceAdd, Nat.zero_add, not_false_eq_true, not_true_eq_false, LN, d0, d1, IX, LX, d2]
      exact ⟨by simp [endedM, c], trivial⟩
/-- Digits: what they come to; where they end. -/
theorem digits_ok {h : Heap} {v : Value} {l : List Int} (S : RdI prog h .i32 v l) : ACalls prog 41 #[v] h (fun y h' => ∃ w, y = .tuple #[.int .i64 (digM 0 false l).1, w, .bool (digM 0 false l).2.2] ∧ RdI prog h .i32 w (digM 0 false l).2.1 ∧ blkOf w = blkOf v ∧ h' = h) := by
  refine acalls_of_W func41 rfl (by kernel_rfl) (by kernel_rfl) (by simp [ntmps41]) ?_
  simp only [wk, wt, wl, ↓reduceIte, Nat.reduceEqDiff, Nat.reduceAdd, Nat.zero_add, not_false_eq_true, not_true_eq_false]
  refine W_loop (fun tm h' => h' = h ∧ ∃ (w : Value) (r : List Int) (n : Int) (b : Bool), tm 0 = w ∧ tm 2 = .int .i64 n ∧ tm 4 = .bool b ∧ RdI prog h .i32 w r ∧ blkOf w = blkOf v ∧ 0 ≤ n ∧ n ≤ 101 ∧ digM 0 false l = digM n b r)
    (fun tm _ => match tm 0 with | .slice _ n _ => n | _ => 0) ⟨rfl, v, l, 0, false, (by first | rfl | (simp only [wk, wt, wl, ↓reduceIte, Nat.reduceEqDiff, Nat.reduceAdd, Nat.zero_add, not_false_eq_true, not_true_eq_false]; done) | (simp only [wk, wt, wl, ↓reduceIte, Nat.reduceEqDiff, Nat.reduceAdd, Nat.zero_add, not_false_eq_true, not_true_eq_false]; rfl)), (by first | rfl | (simp only [wk, wt, wl, ↓reduceIte, Nat.reduceEqDiff, Nat.reduceAdd, Nat.zero_add, not_false_eq_true, not_true_eq_false]; done) | (simp only [wk, wt, wl, ↓reduceIte, Nat.reduceEqDiff, Nat.reduceAdd, Nat.zero_add, not_false_eq_true, not_true_eq_false]; rfl)), (by first | rfl | (simp only [wk, wt, wl, ↓reduceIte, Nat.reduceEqDiff, Nat.reduceAdd, Nat.zero_add, not_false_eq_true, not_true_eq_false]; done) | (simp only [wk, wt, wl, ↓reduceIte, Nat.reduceEqDiff, Nat.reduceAdd, Nat.zero_add, not_false_eq_true, not_true_eq_false]; rfl)), S, rfl, by omega, by omega, rfl⟩ ?_
  rintro tm tm_h ⟨rfl, w, r, n, b, t0, t2, t4, S, hw, hn0, hn1, hg⟩
  rcases r with _ | ⟨x, r⟩
  · have LN := S.ln (n := 0) rfl
    have d0 : decide ((0 : Int) < 0) = false := rfl
    simp only [wk, wt, wl, ↓reduceIte, Nat.reduceEqDiff, Nat.reduceAdd, Nat.zero_add, not_false_eq_true, not_true_eq_false, t0, t2, t4, LN, d0]
    rw [hg]
    exact ⟨w, rfl, S, hw, trivial⟩
  · have LN := S.ln (n := (r.length : Int) + 1) (by simp)
    have d0 : decide (0 < (r.length : Int) + 1) = true := decide_eq_true (by omega)
    have IX : aindexAddr prog 22 w (.int .i64 0) = _ := (S.ix (i := 0) rfl).1
    have LX := (S.ix (i := 0) rfl).2
    have hlo : ∃ w', aslice prog tm_h 22 w (some (.int .i64 1)) none none = some w' ∧ RdI prog tm_h .i32 w' r ∧ blkOf w' = blkOf w ∧ w' = sliceV w 1 1 (x :: r).length := ⟨_, (S.lo (k := 1) (by simp)).1, (S.lo (k := 1) (by simp)).2.1, (S.lo (k := 1) (by simp)).2.2, rfl⟩
    obtain ⟨w', SL, S', hw', hwe⟩ := hlo
    by_cases c1 : 48 ≤ x
    · have d1 := decide_eq_true c1
      by_cases c2 : x ≤ 57
      · have d2 := decide_eq_true c2
        have hg1 : digM n b (x :: r) = digM (kmin (n * 10 + (x - 48)) 101) true r := by simp only [digM]; rw [if_pos ⟨c1, c2⟩]
        have M1 := kmin_spec (n * 10 + (x - 48)) 101
        have w1 : IntKind.i64.wrap (n * 10) = n * 10 := IntWalk.i64_in _ (by omega)
        have w2 : IntKind.i32.wrap (x - 48) = x - 48 := IntWalk.i32_in _ (by omega)
        have w3 : IntKind.i64.wrap (x - 48) = x - 48 := IntWalk.i64_in _ (by omega)
        have w4 : IntKind.i64.wrap (n * 10 + (x - 48)) = n * 10 + (x - 48) := IntWalk.i64_in _ (by omega)
        have cv : ∀ h, aconv prog h 21 3 (.int .i32 (x - 48)) = some (.int .i64 (x - 48)) := fun h => by simp [aconv, underlying21, underlying3, w3]
        simp only [wk, wt, wl, ↓reduceIte, Nat.reduceEqDiff, Nat.reduceAdd, Nat.zero_add, not_false_eq_true, not_true_eq_false, t0, t2, t4, LN, d0, IX, LX, d1, d2, w1, w2, cv, w4, mnV, SL]
        refine ⟨⟨w', r, _, true, rfl, rfl, rfl, S', hw'.trans hw, by omega, by omega, hg.trans hg1⟩, ?_⟩
        obtain ⟨a, c, e1⟩ := Rd.num S
        obtain ⟨a', c', e2⟩ := Rd.num S'
        rw [e1, e2]
        simp
      · have d2 := decide_eq_false c2
        have hg1 : digM n b (x :: r) = (n, x :: r, b) := by simp only [digM]; rw [if_neg (fun e => c2 e.2)]
        simp only [wk, wt, wl, ↓reduceIte, Nat.reduceEqDiff, Nat.reduceAdd, Nat.zero_add, not_false_eq_true, not_true_eq_false, t0, t2, t4, LN, d0, IX, LX, d1, d2]
        rw [hg, hg1]
        exact ⟨w, rfl, S, hw, trivial⟩
    · have d1 := decide_eq_false c1
      have hg1 : digM n b (x :: r) = (n, x :: r, b) := by simp only [digM]; rw [if_neg (fun e => c1 e.1)]
      simp only [wk, wt, wl, ↓reduceIte, Nat.reduceEqDiff, Nat.reduceAdd, Nat.zero_add, not_false_eq_true, not_true_eq_false, t0, t2, t4, LN, d0, IX, LX, d1]
      rw [hg, hg1]
      exact ⟨w, rfl, S, hw, trivial⟩
end Go.Proofs.Ytnnkcbkenofhmaa.Am
end
section
/- Patterns in plain terms: how much each part of a reading takes; no program in sight. -/
set_option linter.unusedSimpArgs false
set_option linter.unusedVariables false
namespace Go.Proofs.Ytnnkcbkenofhmaa.Am
open Go Go.RowKit Go.Proofs.Try
theorem find_at : ∀ {l : List Int} {n : Nat}, l[n]? = some 93 → (∀ j, j < n → l[j]? ≠ some 93) → findM l = some n
  | [], n, h, _ => by simp at h
  | x :: l, 0, h, _ => by simp at h; simp [findM, h]
  | x :: l, n + 1, h, hn => by
    have h0 := hn 0 (by omega)
    simp at h h0
    simp only [findM]
    rw [if_neg h0, find_at h fun j hj => by have := hn (j + 1) (by omega); simpa using this]
    rfl
theorem find_none : ∀ {l : List Int}, (∀ j : Nat, l[j]? ≠ some 93) → findM l = none
  | [], _ => rfl
  | x :: l, hn => by
    have h0 := hn 0
    simp at h0
    simp only [findM]
    rw [if_neg h0, find_none fun j => by have := hn (j + 1); simpa using this]
    rfl
theorem setM_len {l t : List Int} {p : Pat} (h : setM l = .ok (p, t)) : t.length ≤ l.length := by
  unfold setM at h
  simp only at h
  split at h
  · cases h
  · split at h
    · cases h
    · cases h
      rw [List.length_drop]
      split
      · rw [List.length_tail]; omega
      · omega
theorem digM_len : ∀ (l : List Int) (n : Int) (b : Bool), (digM n b l).2.1.length ≤ l.length
  | [], n, b => Nat.le_refl _
  | x :: l, n, b => by
    simp only [digM]
    split
    · exact Nat.le_trans (digM_len l _ _) (by simp)
    · exact Nat.le_refl _
theorem hiM_len (lo : Int) (l : List Int) : (hiM lo l).2.length ≤ l.length := by
  unfold hiM
  split
  · have := digM_len l.tail 0 false
    rw [List.length_tail] at this
    show (digM 0 false l.tail).2.1.length ≤ _
    omega
  · exact Nat.le_refl _
theorem endM_len {lo hi a b : Int} {l t : List Int} (h : endM lo hi l = .ok (a, b, t)) : t.length + 2 ≤ l.length := by
  unfold endM at h
  split at h
  · cases h; simp
  · cases h
theorem timesM_len {l t : List Int} {a b : Int} (h : timesM l = .ok (a, b, t)) : t.length ≤ l.length := by
  unfold timesM at h
  have h1 := digM_len l 0 false
  have h2 := hiM_len (digM 0 false l).1 (digM 0 false l).2.1
  split at h
  · cases h
  · split at h
    · cases h
    · have := endM_len h; omega
theorem peek_n (l : List Int) : ((peekM l).2.2 = 1 → 1 ≤ l.length) ∧ (2 ≤ (peekM l).2.2 → 2 ≤ l.length) := by
  rcases l with _ | ⟨a, _ | ⟨b, l⟩⟩
  · simp [peekM]
  · simp [peekM]
  · simp
theorem repM_len {l t : List Int} {p q : Pat} (h : repM p l = .ok (some (q, t))) : t.length < l.length := by
  have hn := peek_n l
  unfold repM at h
  obtain ⟨x, y, n, hp⟩ : ∃ x y n, peekM l = (x, y, n) := ⟨_, _, _, rfl⟩
  rw [hp] at h hn
  simp only at h hn
  have h1 : (l.drop 1).length = l.length - 1 := List.length_drop
  have h2 : (l.drop 2).length = l.length - 2 := List.length_drop
  split at h
  · rename_i c
    cases h
    have := hn.1 c.1
    omega
  · split at h
    · cases h
    · rename_i c
      have h3 : 2 ≤ n := by
        rcases Int.lt_or_le n 2 with e | e
        · exact absurd (.inl e) c
        · exact e
      have := hn.2 h3
      split at h
      · cases h
      · rename_i lo hi u hu
        cases h
        have := timesM_len hu
        omega
theorem repsM_len : ∀ (n : Nat) {p q : Pat} {l t : List Int}, repsM n p l = .ok (q, t) → t.length ≤ l.length
  | 0, p, q, l, t, h => by cases h
  | n + 1, p, q, l, t, h => by
    simp only [repsM] at h
    split at h
    · cases h; exact Nat.le_refl _
    · split at h
      · cases h
      · cases h; exact Nat.le_refl _
      · rename_i a b c
        have := repM_len c
        have := repsM_len n h
        omega
/-- A reading of a group takes no more than there is, and counts no more groups than it takes runes. -/
def GL (grp : List Int → Int → PRes) : Prop := ∀ l g p t g', grp l g = .ok (p, t, g') → t.length ≤ l.length ∧ (t.length : Int) + g' ≤ l.length + g + 1 ∧ g ≤ g'
/-- The same of what is no bracket's. -/
def AL (f : List Int → Int → PRes) : Prop := ∀ l g p t g', f l g = .ok (p, t, g') → t.length ≤ l.length ∧ (t.length : Int) + g' ≤ l.length + g ∧ g ≤ g'
theorem escM_len {grp : List Int → Int → PRes} (G : GL grp) {y : Int} {l t : List Int} {g g' : Int} {p : Pat} (hl : 2 ≤ l.length) (h : escM grp y l g = .ok (p, t, g')) : t.length < l.length ∧ (t.length : Int) + g' ≤ l.length + g ∧ g ≤ g' := by
  unfold escM at h
  have hd : (l.drop 2).length = l.length - 2 := List.length_drop
  split at h
  · cases h
  · split at h
    · cases h
    · split at h
      · cases h; omega
      · split at h
        · cases h; omega
        · split at h
          · have := G _ _ _ _ _ h; omega
          · cases h; omega
theorem peek_lt {l : List Int} {x y : Int} (h : peekM l = (x, y, 2)) : 2 ≤ l.length := by
  rcases l with _ | ⟨a, _ | ⟨b, l⟩⟩
  · simp [peekM] at h
  · simp [peekM] at h
  · simp
theorem atomM_len {grp : List Int → Int → PRes} (G : GL grp) {first : Bool} {l t : List Int} {g g' : Int} {p : Pat} (hl : 1 ≤ l.length) (h : atomM grp first l g = .ok (p, t, g')) : t.length < l.length ∧ (t.length : Int) + g' ≤ l.length + g ∧ g ≤ g' := by
  unfold atomM at h
  obtain ⟨x, y, n, hp⟩ : ∃ x y n, peekM l = (x, y, n) := ⟨_, _, _, rfl⟩
  rw [hp] at h
  simp only at h
  have hd : (l.drop 1).length = l.length - 1 := List.length_drop
  split at h
  · split at h
    · cases h
    · rename_i q u hs
      cases h
      have := setM_len hs
      omega
  · split at h
    · rename_i hn
      subst hn
      exact escM_len G (peek_lt hp) h
    · split at h
      · cases h
      · split at h
        · cases h; omega
        · split at h
          · cases h; omega
          · split at h
            · cases h; omega
            · cases h; omega
theorem ended_ne {l : List Int} (h : endedM l = false) : 1 ≤ l.length := by
  cases l with
  | nil => cases h
  | cons x l => simp
theorem pieM_len {grp : List Int → Int → PRes} (G : GL grp) : ∀ (n : Nat) {acc : List Pat} {l t : List Int} {g g' : Int} {p : Pat}, pieM grp n acc l g = .ok (p, t, g') → (t.length ≤ l.length ∧ (t.length : Int) + g' ≤ l.length + g ∧ g ≤ g') ∧ endedM t = true
  | 0, acc, l, t, g, g', p, h => by cases h
  | n + 1, acc, l, t, g, g', p, h => by
    simp only [pieM] at h
    split at h
    · rename_i he
      cases h
      exact ⟨by omega, he⟩
    · rename_i he
      have hl := ended_ne (by simpa using he)
      split at h
      · cases h
      · rename_i q u g1 ha
        have h1 := atomM_len G hl ha
        split at h
        · cases h
        · rename_i q2 u2 hr
          have h2 := repsM_len _ hr
          have h3 := pieM_len G n h
          exact ⟨by omega, h3.2⟩
theorem bar_lt {l : List Int} (h : barM l = true) : 2 ≤ l.length := by
  rcases l with _ | ⟨a, _ | ⟨b, l⟩⟩
  · cases h
  · cases h
  · simp
theorem altsM_len {grp : List Int → Int → PRes} (G : GL grp) : ∀ (n : Nat) {acc : List Pat} {l t : List Int} {g g' : Int} {p : Pat}, endedM l = true → altsM grp n acc l g = .ok (p, t, g') → (t.length ≤ l.length ∧ (t.length : Int) + g' ≤ l.length + g ∧ g ≤ g') ∧ endedM t = true ∧ barM t = false
  | 0, acc, l, t, g, g', p, _, h => by cases h
  | n + 1, acc, l, t, g, g', p, hl, h => by
    simp only [altsM] at h
    split at h
    · rename_i hb
      have hb2 := bar_lt hb
      have hd : (l.drop 2).length = l.length - 2 := List.length_drop
      split at h
      · cases h
      · rename_i q u g1 hp
        have h1 := pieM_len G _ hp
        have h2 := altsM_len G n h1.2 h
        exact ⟨by omega, h2.2⟩
    · rename_i hb
      cases h
      exact ⟨by omega, hl, by simpa using hb⟩
theorem altM_len {grp : List Int → Int → PRes} (G : GL grp) {l t : List Int} {g g' : Int} {p : Pat} (h : altM grp l g = .ok (p, t, g')) : (t.length ≤ l.length ∧ (t.length : Int) + g' ≤ l.length + g ∧ g ≤ g') ∧ endedM t = true ∧ barM t = false := by
  unfold altM at h
  split at h
  · cases h
  · rename_i q u g1 hp
    have h1 := pieM_len G _ hp
    have h2 := altsM_len G _ h1.2 h
    exact ⟨by omega, h2.2⟩
theorem grpM_GL : ∀ k, GL (grpM k)
  | 0 => fun l g p t g' h => by cases h
  | k + 1 => fun l g p t g' h => by
    simp only [grpM] at h
    split at h
    · cases h
    · rename_i q u g1 ha
      have h1 := (altM_len (grpM_GL k) ha).1
      split at h
      · cases h
      · cases h
        rw [List.length_drop]
        omega
/-- What is left is of what there was. -/
abbrev Sb (t l : List Int) : Prop := ∀ x, x ∈ t → x ∈ l
theorem sb_drop {l : List Int} {k : Nat} : Sb (l.drop k) l := fun x hx => List.mem_of_mem_drop hx
theorem sb_tail {l : List Int} : Sb l.tail l := fun x hx => List.mem_of_mem_tail hx
theorem setM_sb {l t : List Int} {p : Pat} (h : setM l = .ok (p, t)) : Sb t l := by
  unfold setM at h
  simp only at h
  split at h
  · cases h
  · split at h
    · cases h
    · cases h
      intro x hx
      have := sb_drop x hx
      split at this
      · exact sb_tail x this
      · exact this
theorem digM_sb : ∀ (l : List Int) (n : Int) (b : Bool), Sb (digM n b l).2.1 l
  | [], n, b => fun x hx => hx
  | y :: l, n, b => by
    simp only [digM]
    split
    · exact fun x hx => List.mem_cons_of_mem _ (digM_sb l _ _ x hx)
    · exact fun x hx => hx
theorem hiM_sb (lo : Int) (l : List Int) : Sb (hiM lo l).2 l := by
  unfold hiM
  split
  · exact fun x hx => sb_tail x (digM_sb l.tail 0 false x hx)
  · exact fun x hx => hx
theorem endM_sb {lo hi a b : Int} {l t : List Int} (h : endM lo hi l = .ok (a, b, t)) : Sb t l := by
  unfold endM at h
  split at h
  · cases h; exact fun x hx => List.mem_cons_of_mem _ (List.mem_cons_of_mem _ hx)
  · cases h
theorem timesM_sb {l t : List Int} {a b : Int} (h : timesM l = .ok (a, b, t)) : Sb t l := by
  unfold timesM at h
  split at h
  · cases h
  · split at h
    · cases h
    · exact fun x hx => digM_sb _ _ _ x (hiM_sb _ _ x (endM_sb h x hx))
theorem repM_sb {l t : List Int} {p q : Pat} (h : repM p l = .ok (some (q, t))) : Sb t l := by
  unfold repM at h
  obtain ⟨x, y, n, hp⟩ : ∃ x y n, peekM l = (x, y, n) := ⟨_, _, _, rfl⟩
  rw [hp] at h
  simp only at h
  split at h
  · cases h; exact sb_drop
  · split at h
    · cases h
    · split at h
      · cases h
      · rename_i lo hi u hu
        cases h
        exact fun x hx => sb_drop x (timesM_sb hu x hx)
theorem repsM_sb : ∀ (n : Nat) {p q : Pat} {l t : List Int}, repsM n p l = .ok (q, t) → Sb t l
  | 0, p, q, l, t, h => by cases h
  | n + 1, p, q, l, t, h => by
    simp only [repsM] at h
    split at h
    · cases h; exact fun x hx => hx
    · split at h
      · cases h
      · cases h; exact fun x hx => hx
      · rename_i a b c
        exact fun x hx => repM_sb c x (repsM_sb n h x hx)
def GS (grp : List Int → Int → PRes) : Prop := ∀ l g p t g', grp l g = .ok (p, t, g') → Sb t l
theorem escM_sb {grp : List Int → Int → PRes} (G : GS grp) {y : Int} {l t : List Int} {g g' : Int} {p : Pat} (h : escM grp y l g = .ok (p, t, g')) : Sb t l := by
  unfold escM at h
  split at h
  · cases h
  · split at h
    · cases h
    · split at h
      · cases h; exact sb_drop
      · split at h
        · cases h; exact sb_drop
        · split at h
          · exact fun x hx => sb_drop x (G _ _ _ _ _ h x hx)
          · cases h; exact sb_drop
theorem atomM_sb {grp : List Int → Int → PRes} (G : GS grp) {first : Bool} {l t : List Int} {g g' : Int} {p : Pat} (h : atomM grp first l g = .ok (p, t, g')) : Sb t l := by
  unfold atomM at h
  obtain ⟨x, y, n, hp⟩ : ∃ x y n, peekM l = (x, y, n) := ⟨_, _, _, rfl⟩
  rw [hp] at h
  simp only at h
  split at h
  · split at h
    · cases h
    · rename_i q u hs
      cases h
      exact fun x hx => sb_drop x (setM_sb hs x hx)
  · split at h
    · exact escM_sb G h
    · split at h
      · cases h
      · split at h
        · cases h; exact sb_drop
        · split at h
          · cases h; exact sb_drop
          · split at h
            · cases h; exact sb_drop
            · cases h; exact sb_drop
theorem pieM_sb {grp : List Int → Int → PRes} (G : GS grp) : ∀ (n : Nat) {acc : List Pat} {l t : List Int} {g g' : Int} {p : Pat}, pieM grp n acc l g = .ok (p, t, g') → Sb t l
  | 0, acc, l, t, g, g', p, h => by cases h
  | n + 1, acc, l, t, g, g', p, h => by
    simp only [pieM] at h
    split at h
    · cases h; exact fun x hx => hx
    · split at h
      · cases h
      · rename_i q u g1 ha
        split at h
        · cases h
        · rename_i q2 u2 hr
          exact fun x hx => atomM_sb G ha x (repsM_sb _ hr x (pieM_sb G n h x hx))
theorem altsM_sb {grp : List Int → Int → PRes} (G : GS grp) : ∀ (n : Nat) {acc : List Pat} {l t : List Int} {g g' : Int} {p : Pat}, altsM grp n acc l g = .ok (p, t, g') → Sb t l
  | 0, acc, l, t, g, g', p, h => by cases h
  | n + 1, acc, l, t, g, g', p, h => by
    simp only [altsM] at h
    split at h
    · split at h
      · cases h
      · rename_i q u g1 hp
        exact fun x hx => sb_drop x (pieM_sb G _ hp x (altsM_sb G n h x hx))
    · cases h; exact fun x hx => hx
theorem altM_sb {grp : List Int → Int → PRes} (G : GS grp) {l t : List Int} {g g' : Int} {p : Pat} (h : altM grp l g = .ok (p, t, g')) : Sb t l := by
  unfold altM at h
  split at h
  · cases h
  · rename_i q u g1 hp
    exact fun x hx => pieM_sb G _ hp x (altsM_sb G _ h x hx)
theorem grpM_GS : ∀ k, GS (grpM k)
  | 0 => fun l g p t g' h => by cases h
  | k + 1 => fun l g p t g' h => by
    simp only [grpM] at h
    split at h
    · cases h
    · rename_i q u g1 ha
      split at h
      · cases h
      · cases h
        exact fun x hx => altM_sb (grpM_GS k) ha x (sb_drop x hx)
/-- Where alternatives end and something is left there is a closing bracket. -/
theorem closes {t : List Int} (h1 : endedM t = true) (h2 : barM t = false) (h3 : t.length ≠ 0) : ∃ u, t = 92 :: 41 :: u := by
  rcases t with _ | ⟨a, _ | ⟨b, u⟩⟩
  · exact absurd rfl h3
  · cases h1
  · simp only [endedM, barM, decide_eq_true_eq, decide_eq_false_iff_not] at h1 h2
    obtain ⟨rfl, e⟩ := h1
    rcases e with e | e
    · exact absurd ⟨rfl, e⟩ h2
    · subst e; exact ⟨u, rfl⟩
end Go.Proofs.Ytnnkcbkenofhmaa.Am
end
section
/- Patterns, the program: contract of set, by a walk. -/
set_option linter.unusedSimpArgs false
set_option linter.unusedVariables false
set_option maxHeartbeats 4000000
set_option maxRecDepth 20000
namespace Go.Proofs.Ytnnkcbkenofhmaa.Am
open Go Go.RowKit Go.Proofs.Try
theorem bsSp {h : Heap} {x y : Int} : abuildSlice prog h 23 1 #[(0, .agg #[.int .i64 x, .int .i64 y])] = some (.slice (some ⟨h.size, 0, none⟩) 1 2, h.new 50 [.int .i64 x, .int .i64 y]) :=
  buildA2 underlying23 asz50 azero50 rfl rfl rfl
theorem build_sp {x y : Int} : abuild prog 50 #[(0, .int .i64 x), (1, .int .i64 y)] = some (.agg #[.int .i64 x, .int .i64 y]) := by simp [abuild, wt, aplaces, Instr.fill, Value.cells]
theorem cv32 {x : Int} (h1 : -2147483648 ≤ x) (h2 : x ≤ 2147483647) : ∀ h, aconv prog h 21 3 (.int .i32 x) = some (.int .i64 x) := fun h => by
  have w : IntKind.i64.wrap x = x := IntWalk.i64_in _ (by omega)
  simp [aconv, underlying21, underlying3, w]
def setC (sv : Value) (nt : Bool) : RC := ⟨3, 0, sv, nt, 0, 0, nilS⟩
def I32 (l : List Int) : Prop := ∀ x, x ∈ l → -2147483648 ≤ x ∧ x ≤ 2147483647
theorem ReR.set {h : Heap} {D : Nat → Prop} {acc : List (Int × Int)} {sv : Value} {nt : Bool} (S : RS prog h 2 spC sv acc) (hb : ∀ b, blkOf sv = some b → ¬ D b) : ReR h D (pS acc nt) (setC sv nt) :=
  ⟨rfl, rfl, rfl, rfl, rfl, S, hb, (fun _ e => by cases e), [], RS.nil, rfl⟩
/-- The relation of the second loop. -/
structure SetI (h hh : Heap) (rb pb : Nat) (t0 : List Int) (g o : Int) (nt : Bool) (w sv : Value) (r : List Int) (acc : List (Int × Int)) : Prop where
  S : RdI prog hh .i32 w r
  hw : ∀ b, blkOf w = some b → b = pb
  hp : pb < h.size ∧ pb ≠ rb
  V2 : Var hh h.size (reC rc0)
  V3 : Var hh (h.size + 1) (reC (setC sv nt))
  O : OS prog h.size hh 2 spC sv acc
  hs : ∀ b, blkOf sv = some b → h.size + 1 < b
  R : RD hh rb pb t0 g o
  C : Ch (Bx rb) h hh
  z : h.size + 2 ≤ hh.size
theorem SetI.keeps {h hh h2 : Heap} {rb pb : Nat} {t0 : List Int} {g o : Int} {nt : Bool} {w sv : Value} {r : List Int} {acc : List (Int × Int)} (X : SetI h hh rb pb t0 g o nt w sv r acc) (H : Wf h) (K : Keeps hh h2) : SetI h h2 rb pb t0 g o nt w sv r acc :=
  ⟨X.S.keeps K, X.hw, X.hp, Keeps.var (Ch.wf X.C) K X.V2, Keeps.var (Ch.wf X.C) K X.V3, X.O.keeps K, X.hs, X.R.keeps (Ch.wf X.C) K, X.C.then K fun _ e => e.elim, Nat.le_trans X.z (Ch.le K)⟩
/-- One span more. -/
theorem SetI.push {h hh : Heap} {rb pb : Nat} {t0 : List Int} {g o : Int} {nt : Bool} {w sv : Value} {r : List Int} {acc : List (Int × Int)} (X : SetI h hh rb pb t0 g o nt w sv r acc) (H : Wf h) (hr : rb < h.size) (x : Int × Int) (hl : acc.length ≤ 100000000) {k : Nat} (hk : k ≤ r.length) :
    ∃ v' h1 h2, aappend prog (hh.new 50 (spC x)) 23 23 sv (.slice (some ⟨hh.size, 0, none⟩) 1 2) = some (v', h1) ∧ storeV prog h1 23 (.pointer (some ⟨h.size + 1, 2, none⟩)) v' = some (undef, h2) ∧
      aslice prog h2 22 w (some (.int .i64 (k : Int))) none none = some (sliceV w 1 k r.length) ∧ SetI h h2 rb pb t0 g o nt (sliceV w 1 k r.length) v' (r.drop k) (acc ++ [x]) := by
  have Hh := Ch.wf X.C
  obtain ⟨v', h1, e1, O1, C1, R1, ev⟩ := X.O.append1 (P := prog) Hh (Ch.le X.C) underlying23 elem50 fits50 (by decide) (by decide) x rfl (by omega)
  have hD : ∀ b, blkOf sv = some b ∧ h.size ≤ b → h.size + 1 < b := fun b e => X.hs b e.1
  have ov : one v' = true := by rw [ev]; rfl
  have V3 := Ch.var Hh C1 X.V3 fun e => by have := hD _ e; omega
  obtain ⟨h2, e2, V3', C2, z2⟩ := V3.store1 (P := prog) (t := 23) (v := v') (i := 2) (Ch.wf C1) asz23 (by simp [reC]) ov
  have hb1 : ∀ b, blkOf v' = some b → b = hh.size + 1 := fun b e => by rw [ev] at e; cases e; rfl
  have hsz : hh.size ≤ h1.size := Ch.le C1
  have CC : Ch (fun b => b = h.size + 1 ∨ (blkOf sv = some b ∧ h.size ≤ b)) hh h2 := (C1.mono fun b e => .inr e).then C2 fun b e => .inr (.inl e)
  have hCC : ∀ b, (b = h.size + 1 ∨ (blkOf sv = some b ∧ h.size ≤ b)) → h.size < b := fun b e => by
    rcases e with e | e
    · omega
    · have := hD b e; omega
  have S2 : RdI prog h2 .i32 w r := Ch.rd CC X.S fun b e f => by have := hCC b f; have := X.hw b e; have := X.hp; omega
  obtain ⟨q1, q2, q3⟩ := S2.lo hk
  refine ⟨v', h1, h2, e1, e2, q1, ⟨q2, fun b e => X.hw b (by rw [← q3]; exact e), X.hp, Ch.var Hh CC X.V2 (fun e => by have := hCC _ e; omega), V3', ?_, fun b e => by have := hb1 b e; have := X.z; omega, X.R.ch Hh CC (fun e => by have := hCC _ e; omega) (fun e => by have := hCC _ e; have := X.hp; omega), X.C.then CC fun b e => .inl (by have := hCC b e; omega), by have := X.z; omega⟩⟩
  refine Ch.own C2 O1 fun b e f => ?_
  have := hb1 b e; have := X.z; omega
theorem spans_two {n : Nat} {acc : List (Int × Int)} {x z : Int} {t : List Int} : spansM (n + 1) acc (x :: 45 :: z :: t) = if z < x then .error 5 else spansM n (acc ++ [(x, z)]) t := rfl
theorem spans_one {n : Nat} {acc : List (Int × Int)} {x : Int} {t : List Int} (h : ∀ z u, t ≠ 45 :: z :: u) : spansM (n + 1) acc (x :: t) = if x < x then .error 5 else spansM n (acc ++ [(x, x)]) t := by
  rw [if_neg (by omega)]
  rcases t with _ | ⟨y, _ | ⟨z, u⟩⟩
  · simp [spansM]
  · simp [spansM]
  · have hy : y ≠ 45 := fun e => h z u (by rw [e])
    simp [spansM, hy]
def setR (nt : Bool) (l : List Int) : Except Int (Pat × List Int) := match findM (l.drop 1) with
  | none => .error 10
  | some i => match spansM (i + 2) [] (l.take (i + 1)) with
    | .error e => .error e
    | .ok s => .ok (pS s nt, l.drop (i + 2))
theorem setM_nt {l : List Int} : setM (94 :: l) = setR true l := rfl
theorem setM_no {l : List Int} (h : l.head? ≠ some 94) : setM l = setR false l := by
  unfold setM setR
  simp only [h, decide_false, Bool.false_eq_true, if_false]
  all_goals rfl
theorem set_ok {h : Heap} {rb pb : Nat} {l : List Int} {g o : Int} (R : RD h rb pb (91 :: l) g o) (hl : l.length ≤ 10000000) (h32 : I32 l) : ACallsX prog 39 #[pt rb] h
    (fun y h' => ∃ p t c, setM l = .ok (p, t) ∧ y = reV c ∧ ReR h' (Lt h.size) p c ∧ RD h' rb pb t g o ∧ Ch (Bx rb) h h') (fun v h' => ∃ e, setM l = .error e ∧ v = flt e ∧ Ch (Bx rb) h h') := by
  refine acallsX_of_W' func39 rfl (by kernel_rfl) (by kernel_rfl) (by simp [ntmps39]) ?_
  intro H
  obtain ⟨hrl, hpl, hpr⟩ := R.lt H
  obtain ⟨rv, V, S, hb, _, _⟩ := R
  have N1 := Keeps.new H 26 (reC rc0)
  have V2 := Var.new (e := 26) H (cs := reC rc0)
  have V3 := Var.new (e := 26) (Ch.wf N1) (cs := reC rc0)
  have N2 := Keeps.new (Ch.wf N1) 26 (reC rc0)
  have hz1 : (h.new 26 (reC rc0)).size = h.size + 1 := rfl
  rw [hz1] at V3
  have V2' := Keeps.var (Ch.wf N1) N2 V2
  obtain ⟨h3, e3, V3', C3, z3⟩ := V3.put (Ch.wf N2) (d := setC nilS false) rfl rfl
  have K3 : Keeps h h3 := (N1.trans N2).step C3 fun b e => by omega
  have V23 := Ch.var (Ch.wf N2) C3 V2' (by omega)
  have S3 := S.keeps K3
  have Vr3 := Keeps.var H K3 V
  obtain ⟨LD0, _, _⟩ := Vr3.ld
  have SL : aslice prog h3 22 rv (some (.int .i64 1)) none none = some (sliceV rv 1 1 (91 :: l).length) := (S3.lo (k := 1) (by simp)).1
  have S4 : RdI prog h3 .i32 (sliceV rv 1 1 (91 :: l).length) l := (S3.lo (k := 1) (by simp)).2.1
  have B4 : blkOf (sliceV rv 1 1 (91 :: l).length) = blkOf rv := sliceV_blk
  have bk : abuild prog 26 #[(0, .int .i64 3)] = some (reV (setC nilS false)) := build_rek
  have hz3 : h.size + 2 ≤ h3.size := by rw [z3]; show _ ≤ h.size + 1 + 1; omega
  generalize hlv : sliceV rv 1 1 (91 :: l).length = lv at SL S4 B4
  rcases l with _ | ⟨a, l⟩
  · have LN4 := S4.ln (n := 0) rfl
    have d4 : decide ((0 : Int) < 0) = false := rfl
    simp only [wk, wt, wl, ↓reduceIte, Nat.reduceEqDiff, Nat.reduceAdd, Nat.zero_add, not_false_eq_true, not_true_eq_false, pt, newRe, newSz, bk, e3, LD0, SL, LN4, d4]
    have LNL := S4.ln (n := (([] : List Int).length : Int)) rfl
    refine W_loop (fun tm h' => h3 = h' ∧ tm 0 = pt rb ∧ tm 2 = pt h.size ∧ tm 3 = pt (h.size + 1) ∧ tm 4 = lv ∧ tm 5 = .int .i64 (-1) ∧ tm 28 = lv ∧ tm 29 = .int .i64 (([] : List Int).length : Int) ∧ ∃ i : Nat, tm 30 = .int .i64 (i : Int) ∧ i ≤ ([] : List Int).length ∧ ∀ j, 1 ≤ j → j < i → ([] : List Int)[j]? ≠ some 93)
      (fun tm _ => (([] : List Int).length - intOf (tm 30)).toNat) ⟨rfl, (by first | rfl | (simp only [wk, wt, wl, ↓reduceIte, Nat.reduceEqDiff, Nat.reduceAdd, Nat.zero_add, not_false_eq_true, not_true_eq_false]; done) | (simp only [wk, wt, wl, ↓reduceIte, Nat.reduceEqDiff, Nat.reduceAdd, Nat.zero_add, not_false_eq_true, not_true_eq_false]; rfl) | (simp only [wk, wt, wl, ↓reduceIte, Nat.reduceEqDiff, Nat.reduceAdd, Nat.zero_add, not_false_eq_true, not_true_eq_false, pt]; done) | (simp only [wk, wt, wl, ↓reduceIte, Nat.reduceEqDiff, Nat.reduceAdd, Nat.zero_add, not_false_eq_true, not_true_eq_false, pt]; rfl)), (by first | rfl | (simp only [wk, wt, wl, ↓reduceIte, Nat.reduceEqDiff, Nat.reduceAdd, Nat.zero_add, not_false_eq_true, not_true_eq_false]; done) | (simp only [wk, wt, wl, ↓reduceIte, Nat.reduceEqDiff, Nat.reduceAdd, Nat.zero_add, not_false_eq_true, not_true_eq_false]; rfl) | (simp only [wk, wt, wl, ↓reduceIte, Nat.reduceEqDiff, Nat.reduceAdd, Nat.zero_add, not_false_eq_true, not_true_eq_false, pt]; done) | (simp only [wk, wt, wl, ↓reduceIte, Nat.reduceEqDiff, Nat.reduceAdd, Nat.zero_add, not_false_eq_true, not_true_eq_false, pt]; rfl)), (by first | rfl | (simp only [wk, wt, wl, ↓reduceIte, Nat.reduceEqDiff, Nat.reduceAdd, Nat.zero_add, not_false_eq_true, not_true_eq_false]; done) | (simp only [wk, wt, wl, ↓reduceIte, Nat.reduceEqDiff, Nat.reduceAdd, Nat.zero_add, not_false_eq_true, not_true_eq_false]; rfl) | (simp only [wk, wt, wl, ↓reduceIte, Nat.reduceEqDiff, Nat.reduceAdd, Nat.zero_add, not_false_eq_true, not_true_eq_false, pt]; done) | (simp only [wk, wt, wl, ↓reduceIte, Nat.reduceEqDiff, Nat.reduceAdd, Nat.zero_add, not_false_eq_true, not_true_eq_false, pt]; rfl)), (by first | rfl | (simp only [wk, wt, wl, ↓reduceIte, Nat.reduceEqDiff, Nat.reduceAdd, Nat.zero_add, not_false_eq_true, not_true_eq_false]; done) | (simp only [wk, wt, wl, ↓reduceIte, Nat.reduceEqDiff, Nat.reduceAdd, Nat.zero_add, not_false_eq_true, not_true_eq_false]; rfl) | (simp only [wk, wt, wl, ↓reduceIte, Nat.reduceEqDiff, Nat.reduceAdd, Nat.zero_add, not_false_eq_true, not_true_eq_false, pt]; done) | (simp only [wk, wt, wl, ↓reduceIte, Nat.reduceEqDiff, Nat.reduceAdd, Nat.zero_add, not_false_eq_true, not_true_eq_false, pt]; rfl)), (by first | rfl | (simp only [wk, wt, wl, ↓reduceIte, Nat.reduceEqDiff, Nat.reduceAdd, Nat.zero_add, not_false_eq_true, not_true_eq_false]; done) | (simp only [wk, wt, wl, ↓reduceIte, Nat.reduceEqDiff, Nat.reduceAdd, Nat.zero_add, not_false_eq_true, not_true_eq_false]; rfl) | (simp only [wk, wt, wl, ↓reduceIte, Nat.reduceEqDiff, Nat.reduceAdd, Nat.zero_add, not_false_eq_true, not_true_eq_false, pt]; done) | (simp only [wk, wt, wl, ↓reduceIte, Nat.reduceEqDiff, Nat.reduceAdd, Nat.zero_add, not_false_eq_true, not_true_eq_false, pt]; rfl)), (by first | rfl | (simp only [wk, wt, wl, ↓reduceIte, Nat.reduceEqDiff, Nat.reduceAdd, Nat.zero_add, not_false_eq_true, not_true_eq_false]; done) | (simp only [wk, wt, wl, ↓reduceIte, Nat.reduceEqDiff, Nat.reduceAdd, Nat.zero_add, not_false_eq_true, not_true_eq_false]; rfl) | (simp only [wk, wt, wl, ↓reduceIte, Nat.reduceEqDiff, Nat.reduceAdd, Nat.zero_add, not_false_eq_true, not_true_eq_false, pt]; done) | (simp only [wk, wt, wl, ↓reduceIte, Nat.reduceEqDiff, Nat.reduceAdd, Nat.zero_add, not_false_eq_true, not_true_eq_false, pt]; rfl)), (by first | rfl | (simp only [wk, wt, wl, ↓reduceIte, Nat.reduceEqDiff, Nat.reduceAdd, Nat.zero_add, not_false_eq_true, not_true_eq_false]; done) | (simp only [wk, wt, wl, ↓reduceIte, Nat.reduceEqDiff, Nat.reduceAdd, Nat.zero_add, not_false_eq_true, not_true_eq_false]; rfl) | (simp only [wk, wt, wl, ↓reduceIte, Nat.reduceEqDiff, Nat.reduceAdd, Nat.zero_add, not_false_eq_true, not_true_eq_false, pt]; done) | (simp only [wk, wt, wl, ↓reduceIte, Nat.reduceEqDiff, Nat.reduceAdd, Nat.zero_add, not_false_eq_true, not_true_eq_false, pt]; rfl)), 0, (by first | rfl | (simp only [wk, wt, wl, ↓reduceIte, Nat.reduceEqDiff, Nat.reduceAdd, Nat.zero_add, not_false_eq_true, not_true_eq_false]; done) | (simp only [wk, wt, wl, ↓reduceIte, Nat.reduceEqDiff, Nat.reduceAdd, Nat.zero_add, not_false_eq_true, not_true_eq_false]; rfl)), by omega, fun j h1 h2 => by omega⟩ ?_
    rintro tm _ ⟨rfl, t0, t2, t3, t4, t5, t28, t29, i, t30, hi, hno⟩
    simp only [wk, wt, wl, ↓reduceIte, Nat.reduceEqDiff, Nat.reduceAdd, Nat.zero_add, not_false_eq_true, not_true_eq_false, t30, t29]
    refine condK_dec (fun hd => ?_) (fun hd => ?_)
    · have hi1 : i < ([] : List Int).length := by omega
      obtain ⟨y, hy⟩ : ∃ y, ([] : List Int)[i]? = some y := ⟨_, List.getElem?_eq_getElem hi1⟩
      have IX := (S4.ix hy).1
      have LX := (S4.ix hy).2
      have wi : IntKind.i64.wrap ((i : Int) + 1) = ((i + 1 : Nat) : Int) := by rw [IntWalk.i64_in _ (by omega)]; omega
      by_cases c1 : y = 93 ∧ 0 < i
      · have d1 := decide_eq_true c1.1
        have d2 : decide (0 < (i : Int)) = true := decide_eq_true (by omega)
        have d3 : decide ((i : Int) < 0) = false := decide_eq_false (by omega)
        obtain ⟨n, rfl⟩ : ∃ n, i = n + 1 := ⟨i - 1, by omega⟩
        have hfi : findM (([] : List Int).drop 1) = some n := find_at (by rw [List.getElem?_drop, Nat.add_comm 1 n, hy, c1.1]) (fun j hj => by rw [List.getElem?_drop]; exact hno _ (by omega) (by omega))
        have SL := (S4.lo (k := n + 2) (by omega)).1
        have SL2 := (S4.lo (k := n + 2) (by omega)).2
        have wi2 : IntKind.i64.wrap (((n + 1 : Nat) : Int) + 1) = ((n + 2 : Nat) : Int) := by rw [IntWalk.i64_in _ (by omega)]; omega
        have hVr : Var h3 rb [rv, .int .i64 g, .int .i64 o] := Keeps.var H K3 V
        obtain ⟨h7, e7, V7, C7, z7⟩ := hVr.store1 (P := prog) (t := 22) (v := sliceV lv 1 (n + 2) ([] : List Int).length) (i := 0) (Ch.wf K3) asz22 (by simp) (Rd.one SL2.1)
        simp only [List.set_cons_zero] at V7
        have hD7 : ∀ b, blkOf lv = some b → ¬ (b = rb) := fun b e f => by rw [B4] at e; have := hb b e; omega
        have S7 := Ch.rd C7 S4 hD7
        have SH := Rd.sliceHi S7 underlying22 asz21 (q' := .i64) (j := ((n + 1 : Nat) : Int)) (by omega) (by omega)
        rw [Int.toNat_natCast] at SH
        have S8 : RdI prog h7 .i32 (sliceV lv 1 0 (n + 1)) (([] : List Int).take (n + 1)) := by
          have := RdI.part (P := prog) (k := .i32) (show RdI prog h7 .i32 lv ([] : List Int) from S7) (L := 0) (H := n + 1) (by omega) (by omega)
          simpa using this
        simp only [wk, wt, wl, ↓reduceIte, Nat.reduceEqDiff, Nat.reduceAdd, Nat.zero_add, not_false_eq_true, not_true_eq_false, t0, t2, t3, t4, t5, t28, t30, IX, LX, d1, d2, d3, wi, pt, wi2, SL, e7, SH]
        have X0 : SetI h h7 rb pb (([] : List Int).drop (n + 2)) g o false (sliceV lv 1 0 (n + 1)) nilS (([] : List Int).take (n + 1)) [] := ⟨S8, fun b e => hb b (by rw [sliceV_blk, B4] at e; exact e), ⟨hpl, hpr⟩, Ch.var (Ch.wf K3) C7 V23 (by omega), Ch.var (Ch.wf K3) C7 V3' (by omega), OS.nil, (fun b e => by cases e),
          ⟨_, V7, Ch.rd C7 SL2.1 (fun b e => hD7 b (by rw [sliceV_blk] at e; exact e)), fun b e => hb b (by rw [sliceV_blk, B4] at e; exact e), hpr, by rw [z7]; exact Nat.lt_of_lt_of_le hpl (Ch.le K3)⟩, (K3.mono (D' := Bx rb) fun _ e => e.elim).then C7 fun b e => .inr e, by rw [z7]; exact hz3⟩
        have hM : setM ([] : List Int) = setR false ([] : List Int) := (setM_no (by simp))
        have hlt : (([] : List Int).take (n + 1)).length = n + 1 := by rw [List.length_take]; omega
        have h32' : I32 (([] : List Int).take (n + 1)) := fun y hy => h32 y (List.mem_of_mem_take hy)
        refine W_loopI (fun k tm hh => tm 0 = pt rb ∧ tm 2 = pt h.size ∧ tm 3 = pt (h.size + 1) ∧ ∃ w sv r acc m, tm 4 = w ∧ SetI h hh rb pb (([] : List Int).drop (n + 2)) g o false w sv r acc ∧ r.length = k ∧ k < m ∧ acc.length + k ≤ n + 1 ∧ spansM (n + 2) [] (([] : List Int).take (n + 1)) = spansM m acc r ∧ I32 r)
          ⟨n + 1, (by first | rfl | (simp only [wk, wt, wl, ↓reduceIte, Nat.reduceEqDiff, Nat.reduceAdd, Nat.zero_add, not_false_eq_true, not_true_eq_false]; done) | (simp only [wk, wt, wl, ↓reduceIte, Nat.reduceEqDiff, Nat.reduceAdd, Nat.zero_add, not_false_eq_true, not_true_eq_false]; rfl) | (simp only [wk, wt, wl, ↓reduceIte, Nat.reduceEqDiff, Nat.reduceAdd, Nat.zero_add, not_false_eq_true, not_true_eq_false, t0, pt]; done) | (simp only [wk, wt, wl, ↓reduceIte, Nat.reduceEqDiff, Nat.reduceAdd, Nat.zero_add, not_false_eq_true, not_true_eq_false, t0, pt]; rfl)), (by first | rfl | (simp only [wk, wt, wl, ↓reduceIte, Nat.reduceEqDiff, Nat.reduceAdd, Nat.zero_add, not_false_eq_true, not_true_eq_false]; done) | (simp only [wk, wt, wl, ↓reduceIte, Nat.reduceEqDiff, Nat.reduceAdd, Nat.zero_add, not_false_eq_true, not_true_eq_false]; rfl) | (simp only [wk, wt, wl, ↓reduceIte, Nat.reduceEqDiff, Nat.reduceAdd, Nat.zero_add, not_false_eq_true, not_true_eq_false, t2, pt]; done) | (simp only [wk, wt, wl, ↓reduceIte, Nat.reduceEqDiff, Nat.reduceAdd, Nat.zero_add, not_false_eq_true, not_true_eq_false, t2, pt]; rfl)), (by first | rfl | (simp only [wk, wt, wl, ↓reduceIte, Nat.reduceEqDiff, Nat.reduceAdd, Nat.zero_add, not_false_eq_true, not_true_eq_false]; done) | (simp only [wk, wt, wl, ↓reduceIte, Nat.reduceEqDiff, Nat.reduceAdd, Nat.zero_add, not_false_eq_true, not_true_eq_false]; rfl) | (simp only [wk, wt, wl, ↓reduceIte, Nat.reduceEqDiff, Nat.reduceAdd, Nat.zero_add, not_false_eq_true, not_true_eq_false, t3, pt]; done) | (simp only [wk, wt, wl, ↓reduceIte, Nat.reduceEqDiff, Nat.reduceAdd, Nat.zero_add, not_false_eq_true, not_true_eq_false, t3, pt]; rfl)), _, _, _, _, n + 2, (by first | rfl | (simp only [wk, wt, wl, ↓reduceIte, Nat.reduceEqDiff, Nat.reduceAdd, Nat.zero_add, not_false_eq_true, not_true_eq_false]; done) | (simp only [wk, wt, wl, ↓reduceIte, Nat.reduceEqDiff, Nat.reduceAdd, Nat.zero_add, not_false_eq_true, not_true_eq_false]; rfl)), X0, hlt, by omega, by simp, rfl, h32'⟩ ?_
        clear t0 t2 t3 t4 t5 t28 t29 t30 X0 S7 S8 SH
        rintro k tm hh ⟨t0, t2, t3, w, sv, r, acc, m, t4, X, hk, hn, hL, hg, h32⟩
        obtain ⟨m, rfl⟩ : ∃ q, m = q + 1 := ⟨m - 1, by omega⟩
        rcases r with _ | ⟨x, r⟩
        · have LN := X.S.ln (n := 0) rfl
          have d0 : decide ((0 : Int) < 0) = false := rfl
          have o1 : one sv = true := Rd.one X.O.1
          obtain ⟨h9, e9, V9, C9, z9⟩ := X.V2.put (Ch.wf X.C) (d := setC sv false) o1 rfl
          simp only [wk, wt, wl, ↓reduceIte, Nat.reduceEqDiff, Nat.reduceAdd, Nat.zero_add, not_false_eq_true, not_true_eq_false, t0, t2, t3, t4, LN, d0, pt, X.V3.re, e9, V9.re]
          have hC9 : Ch (Bx rb) h h9 := X.C.then C9 fun b e => .inl (by omega)
          refine ⟨pS acc false, ([] : List Int).drop (n + 2), setC sv false, ?_, rfl, ReR.set (Ch.rd C9 X.O.1 fun b e => by have := X.hs b e; omega) (fun b e f => ?_), X.R.ch (Ch.wf X.C) C9 (by omega) (by omega), hC9⟩
          · rw [hM]; unfold setR; rw [hfi]; simp only; rw [hg]; rfl
          · have := X.hs b e; have : b < h.size := f; omega
        · have LN := X.S.ln (n := (r.length : Int) + 1) (by simp)
          have d0 : decide (0 < (r.length : Int) + 1) = true := decide_eq_true (by omega)
          have IX : aindexAddr prog 22 w (.int .i64 0) = _ := (X.S.ix (i := 0) rfl).1
          have LX := (X.S.ix (i := 0) rfl).2
          have hx := h32 x (by simp)
          have cvx := cv32 hx.1 hx.2
          have Hh := Ch.wf X.C
          have N1 := Keeps.new Hh 50 [.int .i64 0, .int .i64 0]
          obtain ⟨h4, e4, V4, C4, z4⟩ := (Var.new (e := 50) Hh (cs := [.int .i64 0, .int .i64 0])).store (P := prog) (t := 50) (v := .agg #[.int .i64 x, .int .i64 x]) (i := 0) (Ch.wf N1) asz50 (by simp [Value.cells]) (by simp [Value.cells, one])
          have V4' : Var h4 hh.size [.int .i64 x, .int .i64 x] := V4
          have K4 := N1.step C4 fun b e => by omega
          have X4 := X.keeps H K4
          have L0 := fun {hq : Heap} {a b : Int} (V : Var hq hh.size [.int .i64 a, .int .i64 b]) => V.load1 (P := prog) (t := 3) underlying3 rfl (i := 0)
          have L1 := fun {hq : Heap} {a b : Int} (V : Var hq hh.size [.int .i64 a, .int .i64 b]) => V.load1 (P := prog) (t := 3) underlying3 rfl (i := 1)
          simp only [List.getElem?_cons_succ, List.getElem?_cons_zero] at L0 L1
          simp only [wk, wt, wl, ↓reduceIte, Nat.reduceEqDiff, Nat.reduceAdd, Nat.zero_add, not_false_eq_true, not_true_eq_false, t0, t2, t3, t4, LN, d0, pt]
          refine adraw_order [(0, false), (1, false), (2, false), (3, false), (4, false), (5, false), (6, false), (7, false), (8, false), (9, true), (10, false), (11, false)] mixed (by kernel_rfl) (by kernel_rfl) (by kernel_rfl) (by with_reducible repeat (first | exact PF_retK | refine PF_thenK ?_ | refine PF_blockK ?_)) ?_
          simp only [wk, wt, wl, ↓reduceIte, Nat.reduceEqDiff, Nat.reduceAdd, Nat.zero_add, not_false_eq_true, not_true_eq_false, dK_t, t0, t2, t3, t4, IX, LX, cvx, build_sp, e4]
          refine ⟨N1.reads Hh, ?_⟩
          have LN4 := X4.S.ln (n := (r.length : Int) + 1) (by simp)
          rcases r with _ | ⟨y, _ | ⟨z, r⟩⟩
          · have d5 : decide (2 < ((([] : List Int).length : Nat) : Int) + 1) = false := rfl
            have hg1 := hg.trans (spans_one (fun z u e => by cases e))
            simp only [wk, wt, wl, ↓reduceIte, Nat.reduceEqDiff, Nat.reduceAdd, Nat.zero_add, not_false_eq_true, not_true_eq_false, t0, t2, t3, t4, pt, LN4, d5]
            have d9 := L1 V4'
            have d8 := L0 V4'
            by_cases c9 : x < x
            · have e9 := decide_eq_true c9
              rw [if_pos c9] at hg1
              simp only [wk, wt, wl, ↓reduceIte, Nat.reduceEqDiff, Nat.reduceAdd, Nat.zero_add, not_false_eq_true, not_true_eq_false, t0, t2, t3, t4, d9, d8, e9, build_fault, conc_fault]
              exact ⟨5, by rw [hM]; unfold setR; rw [hfi]; simp only; rw [hg1], rfl, X4.C⟩
            · have e9 := decide_eq_false c9
              rw [if_neg c9] at hg1
              obtain ⟨v8, h8, h9, q1, q2, q3, X9⟩ := X4.push H hrl (x, x) (by omega) (k := 1) (by simp)
              have q3' : aslice prog h9 22 w (some (.int .i64 1)) none none = some (sliceV w 1 1 _) := q3
              have q1' : aappend prog (h4.new 50 [.int .i64 x, .int .i64 x]) 23 23 sv (.slice (some ⟨h4.size, 0, none⟩) 1 2) = some (v8, h8) := q1
              have LA := V4'.loadA (P := prog) (t := 50) underlying50 rfl asz50
              have LF := X4.V3.load1 (P := prog) (t := 23) underlying23 rfl (i := 2)
              simp only [reC, setC, List.getElem?_cons_succ, List.getElem?_cons_zero] at LF
              simp only [wk, wt, wl, ↓reduceIte, Nat.reduceEqDiff, Nat.reduceAdd, Nat.zero_add, not_false_eq_true, not_true_eq_false, t0, t2, t3, t4, pt, d9, d8, e9, LF, LA, bsSp, q1', q2, q3']
              simp only [List.length_cons, List.length_nil] at hk hn hL
              exact ⟨([]).length, by (try simp only [List.length_cons, List.length_nil]); omega, _, v8, _, _, m, rfl, X9, rfl, by (try simp only [List.length_cons, List.length_nil]); omega, by (try simp only [List.length_cons, List.length_nil, List.length_append]); omega, hg1, fun y hy => h32 y (List.mem_of_mem_drop (i := 1) hy)⟩
          · have d5 : decide (2 < (([y].length : Nat) : Int) + 1) = false := rfl
            have hg1 := hg.trans (spans_one (fun z u e => by cases e))
            simp only [wk, wt, wl, ↓reduceIte, Nat.reduceEqDiff, Nat.reduceAdd, Nat.zero_add, not_false_eq_true, not_true_eq_false, t0, t2, t3, t4, pt, LN4, d5]
            have d9 := L1 V4'
            have d8 := L0 V4'
            by_cases c9 : x < x
            · have e9 := decide_eq_true c9
              rw [if_pos c9] at hg1
              simp only [wk, wt, wl, ↓reduceIte, Nat.reduceEqDiff, Nat.reduceAdd, Nat.zero_add, not_false_eq_true, not_true_eq_false, t0, t2, t3, t4, d9, d8, e9, build_fault, conc_fault]
              exact ⟨5, by rw [hM]; unfold setR; rw [hfi]; simp only; rw [hg1], rfl, X4.C⟩
            · have e9 := decide_eq_false c9
              rw [if_neg c9] at hg1
              obtain ⟨v8, h8, h9, q1, q2, q3, X9⟩ := X4.push H hrl (x, x) (by omega) (k := 1) (by simp)
              have q3' : aslice prog h9 22 w (some (.int .i64 1)) none none = some (sliceV w 1 1 _) := q3
              have q1' : aappend prog (h4.new 50 [.int .i64 x, .int .i64 x]) 23 23 sv (.slice (some ⟨h4.size, 0, none⟩) 1 2) = some (v8, h8) := q1
              have LA := V4'.loadA (P := prog) (t := 50) underlying50 rfl asz50
              have LF := X4.V3.load1 (P := prog) (t := 23) underlying23 rfl (i := 2)
              simp only [reC, setC, List.getElem?_cons_succ, List.getElem?_cons_zero] at LF
              simp only [wk, wt, wl, ↓reduceIte, Nat.reduceEqDiff, Nat.reduceAdd, Nat.zero_add, not_false_eq_true, not_true_eq_false, t0, t2, t3, t4, pt, d9, d8, e9, LF, LA, bsSp, q1', q2, q3']
              simp only [List.length_cons, List.length_nil] at hk hn hL
              exact ⟨([y]).length, by (try simp only [List.length_cons, List.length_nil]); omega, _, v8, _, _, m, rfl, X9, rfl, by (try simp only [List.length_cons, List.length_nil]); omega, by (try simp only [List.length_cons, List.length_nil, List.length_append]); omega, hg1, fun y hy => h32 y (List.mem_of_mem_drop (i := 1) hy)⟩
          · have d5 : decide (2 < (((y :: z :: r).length : Nat) : Int) + 1) = true := decide_eq_true (by simp; omega)
            have IY : aindexAddr prog 22 w (.int .i64 1) = _ := (X4.S.ix (i := 1) rfl).1
            have LY := (X4.S.ix (i := 1) rfl).2
            by_cases c6 : y = 45
            · have d6 := decide_eq_true c6
              subst c6
              have hg1 := hg.trans spans_two
              have IZ : aindexAddr prog 22 w (.int .i64 2) = _ := (X4.S.ix (i := 2) rfl).1
              have LZ := (X4.S.ix (i := 2) rfl).2
              have hz := h32 z (by simp)
              have cvz := cv32 hz.1 hz.2
              obtain ⟨h5, e5, V5, C5, z5⟩ := V4'.store1 (P := prog) (t := 3) (v := .int .i64 z) (i := 1) (Ch.wf K4) asz3 (by simp) rfl
              simp only [List.set_cons_succ, List.set_cons_zero] at V5
              have K5 := K4.step C5 fun b e => by omega
              have X5 := X.keeps H K5
              simp only [wk, wt, wl, ↓reduceIte, Nat.reduceEqDiff, Nat.reduceAdd, Nat.zero_add, not_false_eq_true, not_true_eq_false, t0, t2, t3, t4, pt, LN4, d5, IY, LY, d6, IZ, LZ, cvz, e5]
              have d9 := L1 V5
              have d8 := L0 V5
              by_cases c9 : z < x
              · have e9 := decide_eq_true c9
                rw [if_pos c9] at hg1
                simp only [wk, wt, wl, ↓reduceIte, Nat.reduceEqDiff, Nat.reduceAdd, Nat.zero_add, not_false_eq_true, not_true_eq_false, t0, t2, t3, t4, d9, d8, e9, build_fault, conc_fault]
                exact ⟨5, by rw [hM]; unfold setR; rw [hfi]; simp only; rw [hg1], rfl, X5.C⟩
              · have e9 := decide_eq_false c9
                rw [if_neg c9] at hg1
                obtain ⟨v8, h8, h9, q1, q2, q3, X9⟩ := X5.push H hrl (x, z) (by omega) (k := 3) (by simp)
                have q3' : aslice prog h9 22 w (some (.int .i64 3)) none none = some (sliceV w 1 3 _) := q3
                have q1' : aappend prog (h5.new 50 [.int .i64 x, .int .i64 z]) 23 23 sv (.slice (some ⟨h5.size, 0, none⟩) 1 2) = some (v8, h8) := q1
                have LA := V5.loadA (P := prog) (t := 50) underlying50 rfl asz50
                have LF := X5.V3.load1 (P := prog) (t := 23) underlying23 rfl (i := 2)
                simp only [reC, setC, List.getElem?_cons_succ, List.getElem?_cons_zero] at LF
                simp only [wk, wt, wl, ↓reduceIte, Nat.reduceEqDiff, Nat.reduceAdd, Nat.zero_add, not_false_eq_true, not_true_eq_false, t0, t2, t3, t4, pt, d9, d8, e9, LF, LA, bsSp, q1', q2, q3']
                simp only [List.length_cons, List.length_nil] at hk hn hL
                exact ⟨(r).length, by (try simp only [List.length_cons, List.length_nil]); omega, _, v8, _, _, m, rfl, X9, rfl, by (try simp only [List.length_cons, List.length_nil]); omega, by (try simp only [List.length_cons, List.length_nil, List.length_append]); omega, hg1, fun y hy => h32 y (List.mem_of_mem_drop (i := 3) hy)⟩
            · have d6 := decide_eq_false c6
              have hg1 := hg.trans (spans_one (fun z' u e => by cases e; exact c6 rfl))
              simp only [wk, wt, wl, ↓reduceIte, Nat.reduceEqDiff, Nat.reduceAdd, Nat.zero_add, not_false_eq_true, not_true_eq_false, t0, t2, t3, t4, pt, LN4, d5, IY, LY, d6]
              have d9 := L1 V4'
              have d8 := L0 V4'
              by_cases c9 : x < x
              · have e9 := decide_eq_true c9
                rw [if_pos c9] at hg1
                simp only [wk, wt, wl, ↓reduceIte, Nat.reduceEqDiff, Nat.reduceAdd, Nat.zero_add, not_false_eq_true, not_true_eq_false, t0, t2, t3, t4, d9, d8, e9, build_fault, conc_fault]
                exact ⟨5, by rw [hM]; unfold setR; rw [hfi]; simp only; rw [hg1], rfl, X4.C⟩
              · have e9 := decide_eq_false c9
                rw [if_neg c9] at hg1
                obtain ⟨v8, h8, h9, q1, q2, q3, X9⟩ := X4.push H hrl (x, x) (by omega) (k := 1) (by simp)
                have q3' : aslice prog h9 22 w (some (.int .i64 1)) none none = some (sliceV w 1 1 _) := q3
                have q1' : aappend prog (h4.new 50 [.int .i64 x, .int .i64 x]) 23 23 sv (.slice (some ⟨h4.size, 0, none⟩) 1 2) = some (v8, h8) := q1
                have LA := V4'.loadA (P := prog) (t := 50) underlying50 rfl asz50
                have LF := X4.V3.load1 (P := prog) (t := 23) underlying23 rfl (i := 2)
                simp only [reC, setC, List.getElem?_cons_succ, List.getElem?_cons_zero] at LF
                simp only [wk, wt, wl, ↓reduceIte, Nat.reduceEqDiff, Nat.reduceAdd, Nat.zero_add, not_false_eq_true, not_true_eq_false, t0, t2, t3, t4, pt, d9, d8, e9, LF, LA, bsSp, q1', q2, q3']
                simp only [List.length_cons, List.length_nil] at hk hn hL
                exact ⟨(y :: z :: r).length, by (try simp only [List.length_cons, List.length_nil]); omega, _, v8, _, _, m, rfl, X9, rfl, by (try simp only [List.length_cons, List.length_nil]); omega, by (try simp only [List.length_cons, List.length_nil, List.length_append]); omega, hg1, fun y hy => h32 y (List.mem_of_mem_drop (i := 1) hy)⟩
      · have nx : ∀ j, 1 ≤ j → j < i + 1 → ([] : List Int)[j]? ≠ some 93 := fun j h1 h2 => by
          rcases Nat.lt_or_eq_of_le (Nat.lt_succ_iff.1 h2) with e | rfl
          · exact hno j h1 e
          · rw [hy]; intro e; cases e; exact c1 ⟨rfl, by omega⟩
        by_cases c2 : y = 93
        · have d1 := decide_eq_true c2
          have d2 : decide (0 < (i : Int)) = false := decide_eq_false (fun e => c1 ⟨c2, by omega⟩)
          simp only [wk, wt, wl, ↓reduceIte, Nat.reduceEqDiff, Nat.reduceAdd, Nat.zero_add, not_false_eq_true, not_true_eq_false, t0, t2, t3, t4, t5, t28, t29, t30, IX, LX, d1, d2, wi, intOf_int]
          exact ⟨⟨i + 1, rfl, by omega, nx⟩, by omega⟩
        · have d1 := decide_eq_false c2
          simp only [wk, wt, wl, ↓reduceIte, Nat.reduceEqDiff, Nat.reduceAdd, Nat.zero_add, not_false_eq_true, not_true_eq_false, t0, t2, t3, t4, t5, t28, t29, t30, IX, LX, d1, wi, intOf_int]
          exact ⟨⟨i + 1, rfl, by omega, nx⟩, by omega⟩
    · have d3 : decide ((-1 : Int) < 0) = true := rfl
      have hM : setM ([] : List Int) = setR false ([] : List Int) := (setM_no (by simp))
      have hfi : findM (([] : List Int).drop 1) = none := find_none fun j e => by
        rw [List.getElem?_drop] at e
        have := (List.getElem?_eq_some_iff.1 e).1
        exact hno _ (by omega) (by omega) e
      simp only [wk, wt, wl, ↓reduceIte, Nat.reduceEqDiff, Nat.reduceAdd, Nat.zero_add, not_false_eq_true, not_true_eq_false, t5, d3, build_fault, conc_fault]
      exact ⟨10, by rw [hM]; unfold setR; rw [hfi], rfl, K3.mono fun _ e => e.elim⟩
  · have LN4 := S4.ln (n := (l.length : Int) + 1) (by simp)
    have d4 : decide (0 < (l.length : Int) + 1) = true := decide_eq_true (by omega)
    have IA : aindexAddr prog 22 lv (.int .i64 0) = _ := (S4.ix (i := 0) rfl).1
    have LA := (S4.ix (i := 0) rfl).2
    by_cases ca : a = 94
    · have d5 := decide_eq_true ca
      subst ca
      obtain ⟨h4, e4, V4', C4, z4⟩ := V3'.store1 (P := prog) (t := 4) (v := .bool true) (i := 3) (Ch.wf K3) asz4 (by simp [reC]) rfl
      have V4 : Var h4 (h.size + 1) (reC (setC nilS true)) := V4'
      have K4 : Keeps h h4 := K3.step C4 fun b e => by omega
      have V24 := Ch.var (Ch.wf K3) C4 V23 (by omega)
      have S4' : RdI prog h4 .i32 lv (94 :: l) := Ch.rd C4 S4 fun b e f => by
        rw [B4] at e
        have := hb b e; omega
      have SL5' : aslice prog h4 22 lv (some (.int .i64 1)) none none = some (sliceV lv 1 1 (94 :: l).length) := (S4'.lo (k := 1) (by simp)).1
      have SL5 : aslice prog h3 22 lv (some (.int .i64 1)) none none = some (sliceV lv 1 1 (94 :: l).length) := (S4.lo (k := 1) (by simp)).1
      have S5 : RdI prog h4 .i32 (sliceV lv 1 1 (94 :: l).length) l := Ch.rd C4 (S4.lo (k := 1) (by simp)).2.1 fun b e f => by
        rw [sliceV_blk, B4] at e
        have := hb b e; omega
      have B5 : blkOf (sliceV lv 1 1 (94 :: l).length) = blkOf rv := sliceV_blk.trans B4
      have hz4 : h.size + 2 ≤ h4.size := by rw [z4]; exact hz3
      have h32' : I32 l := fun y hy => h32 y (by simp [hy])
      generalize sliceV lv 1 1 (94 :: l).length = lw at SL5 SL5' S5 B5
      simp only [wk, wt, wl, ↓reduceIte, Nat.reduceEqDiff, Nat.reduceAdd, Nat.zero_add, not_false_eq_true, not_true_eq_false, pt, newRe, newSz, bk, e3, LD0, SL, LN4, d4, IA, LA, d5]
      refine adraw_mid (fun tm hh => h4 = hh ∧ tm 0 = pt rb ∧ tm 2 = pt h.size ∧ tm 3 = pt (h.size + 1) ∧ tm 4 = lw) (.two 0 2 (.two 1 2 (.one 2 (.one 3 (.one 4 .nil))) (.two 1 3 (.one 3 (.one 4 .nil)) (.one 1 (.one 4 .nil)))) (.two 0 3 (.two 1 3 (.one 3 (.one 4 .nil)) (.one 1 (.one 4 .nil))) (.one 0 (.one 1 (.one 4 .nil))))) mixed (by kernel_rfl) (by kernel_rfl) (by kernel_rfl) ?_ ?_
      · simp only [wk, wt, wl, ↓reduceIte, Nat.reduceEqDiff, Nat.reduceAdd, Nat.zero_add, not_false_eq_true, not_true_eq_false, we, SL5, SL5', e4, pt, and_self]
      rintro tm _ ⟨rfl, t0, t2, t3, t4⟩
      have hl' : l.length ≤ 10000000 := by rw [List.length_cons] at hl; omega
      have LN5 := S5.ln (n := (l.length : Int)) rfl
      simp only [wk, wt, wl, ↓reduceIte, Nat.reduceEqDiff, Nat.reduceAdd, Nat.zero_add, not_false_eq_true, not_true_eq_false, t0, t2, t3, t4, pt, LN5]
      have LNL := S5.ln (n := (l.length : Int)) rfl
      refine W_loop (fun tm h' => h4 = h' ∧ tm 0 = pt rb ∧ tm 2 = pt h.size ∧ tm 3 = pt (h.size + 1) ∧ tm 4 = lw ∧ tm 5 = .int .i64 (-1) ∧ tm 28 = lw ∧ tm 29 = .int .i64 (l.length : Int) ∧ ∃ i : Nat, tm 30 = .int .i64 (i : Int) ∧ i ≤ l.length ∧ ∀ j, 1 ≤ j → j < i → l[j]? ≠ some 93)
        (fun tm _ => (l.length - intOf (tm 30)).toNat) ⟨rfl, (by first | rfl | (simp only [wk, wt, wl, ↓reduceIte, Nat.reduceEqDiff, Nat.reduceAdd, Nat.zero_add, not_false_eq_true, not_true_eq_false]; done) | (simp only [wk, wt, wl, ↓reduceIte, Nat.reduceEqDiff, Nat.reduceAdd, Nat.zero_add, not_false_eq_true, not_true_eq_false]; rfl) | (simp only [wk, wt, wl, ↓reduceIte, Nat.reduceEqDiff, Nat.reduceAdd, Nat.zero_add, not_false_eq_true, not_true_eq_false, t0, t2, t3, t4, pt]; done) | (simp only [wk, wt, wl, ↓reduceIte, Nat.reduceEqDiff, Nat.reduceAdd, Nat.zero_add, not_false_eq_true, not_true_eq_false, t0, t2, t3, t4, pt]; rfl)), (by first | rfl | (simp only [wk, wt, wl, ↓reduceIte, Nat.reduceEqDiff, Nat.reduceAdd, Nat.zero_add, not_false_eq_true, not_true_eq_false]; done) | (simp only [wk, wt, wl, ↓reduceIte, Nat.reduceEqDiff, Nat.reduceAdd, Nat.zero_add, not_false_eq_true, not_true_eq_false]; rfl) | (simp only [wk, wt, wl, ↓reduceIte, Nat.reduceEqDiff, Nat.reduceAdd, Nat.zero_add, not_false_eq_true, not_true_eq_false, t0, t2, t3, t4, pt]; done) | (simp only [wk, wt, wl, ↓reduceIte, Nat.reduceEqDiff, Nat.reduceAdd, Nat.zero_add, not_false_eq_true, not_true_eq_false, t0, t2, t3, t4, pt]; rfl)), (by first | rfl | (simp only [wk, wt, wl, ↓reduceIte, Nat.reduceEqDiff, Nat.reduceAdd, Nat.zero_add, not_false_eq_true, not_true_eq_false]; done) | (simp only [wk, wt, wl, ↓reduceIte, Nat.reduceEqDiff, Nat.reduceAdd, Nat.zero_add, not_false_eq_true, not_true_eq_false]; rfl) | (simp only [wk, wt, wl, ↓reduceIte, Nat.reduceEqDiff, Nat.reduceAdd, Nat.zero_add, not_false_eq_true, not_true_eq_false, t0, t2, t3, t4, pt]; done) | (simp only [wk, wt, wl, ↓reduceIte, Nat.reduceEqDiff, Nat.reduceAdd, Nat.zero_add, not_false_eq_true, not_true_eq_false, t0, t2, t3, t4, pt]; rfl)), (by first | rfl | (simp only [wk, wt, wl, ↓reduceIte, Nat.reduceEqDiff, Nat.reduceAdd, Nat.zero_add, not_false_eq_true, not_true_eq_false]; done) | (simp only [wk, wt, wl, ↓reduceIte, Nat.reduceEqDiff, Nat.reduceAdd, Nat.zero_add, not_false_eq_true, not_true_eq_false]; rfl) | (simp only [wk, wt, wl, ↓reduceIte, Nat.reduceEqDiff, Nat.reduceAdd, Nat.zero_add, not_false_eq_true, not_true_eq_false, t0, t2, t3, t4, pt]; done) | (simp only [wk, wt, wl, ↓reduceIte, Nat.reduceEqDiff, Nat.reduceAdd, Nat.zero_add, not_false_eq_true, not_true_eq_false, t0, t2, t3, t4, pt]; rfl)), (by first | rfl | (simp only [wk, wt, wl, ↓reduceIte, Nat.reduceEqDiff, Nat.reduceAdd, Nat.zero_add, not_false_eq_true, not_true_eq_false]; done) | (simp only [wk, wt, wl, ↓reduceIte, Nat.reduceEqDiff, Nat.reduceAdd, Nat.zero_add, not_false_eq_true, not_true_eq_false]; rfl) | (simp only [wk, wt, wl, ↓reduceIte, Nat.reduceEqDiff, Nat.reduceAdd, Nat.zero_add, not_false_eq_true, not_true_eq_false, t0, t2, t3, t4, pt]; done) | (simp only [wk, wt, wl, ↓reduceIte, Nat.reduceEqDiff, Nat.reduceAdd, Nat.zero_add, not_false_eq_true, not_true_eq_false, t0, t2, t3, t4, pt]; rfl)), (by first | rfl | (simp only [wk, wt, wl, ↓reduceIte, Nat.reduceEqDiff, Nat.reduceAdd, Nat.zero_add, not_false_eq_true, not_true_eq_false]; done) | (simp only [wk, wt, wl, ↓reduceIte, Nat.reduceEqDiff, Nat.reduceAdd, Nat.zero_add, not_false_eq_true, not_true_eq_false]; rfl) | (simp only [wk, wt, wl, ↓reduceIte, Nat.reduceEqDiff, Nat.reduceAdd, Nat.zero_add, not_false_eq_true, not_true_eq_false, t0, t2, t3, t4, pt]; done) | (simp only [wk, wt, wl, ↓reduceIte, Nat.reduceEqDiff, Nat.reduceAdd, Nat.zero_add, not_false_eq_true, not_true_eq_false, t0, t2, t3, t4, pt]; rfl)), (by first | rfl | (simp only [wk, wt, wl, ↓reduceIte, Nat.reduceEqDiff, Nat.reduceAdd, Nat.zero_add, not_false_eq_true, not_true_eq_false]; done) | (simp only [wk, wt, wl, ↓reduceIte, Nat.reduceEqDiff, Nat.reduceAdd, Nat.zero_add, not_false_eq_true, not_true_eq_false]; rfl) | (simp only [wk, wt, wl, ↓reduceIte, Nat.reduceEqDiff, Nat.reduceAdd, Nat.zero_add, not_false_eq_true, not_true_eq_false, t0, t2, t3, t4, pt]; done) | (simp only [wk, wt, wl, ↓reduceIte, Nat.reduceEqDiff, Nat.reduceAdd, Nat.zero_add, not_false_eq_true, not_true_eq_false, t0, t2, t3, t4, pt]; rfl)), 0, (by first | rfl | (simp only [wk, wt, wl, ↓reduceIte, Nat.reduceEqDiff, Nat.reduceAdd, Nat.zero_add, not_false_eq_true, not_true_eq_false]; done) | (simp only [wk, wt, wl, ↓reduceIte, Nat.reduceEqDiff, Nat.reduceAdd, Nat.zero_add, not_false_eq_true, not_true_eq_false]; rfl)), by omega, fun j h1 h2 => by omega⟩ ?_
      rintro tm _ ⟨rfl, t0, t2, t3, t4, t5, t28, t29, i, t30, hi, hno⟩
      simp only [wk, wt, wl, ↓reduceIte, Nat.reduceEqDiff, Nat.reduceAdd, Nat.zero_add, not_false_eq_true, not_true_eq_false, t30, t29]
      refine condK_dec (fun hd => ?_) (fun hd => ?_)
      · have hi1 : i < l.length := by omega
        obtain ⟨y, hy⟩ : ∃ y, l[i]? = some y := ⟨_, List.getElem?_eq_getElem hi1⟩
        have IX := (S5.ix hy).1
        have LX := (S5.ix hy).2
        have wi : IntKind.i64.wrap ((i : Int) + 1) = ((i + 1 : Nat) : Int) := by rw [IntWalk.i64_in _ (by omega)]; omega
        by_cases c1 : y = 93 ∧ 0 < i
        · have d1 := decide_eq_true c1.1
          have d2 : decide (0 < (i : Int)) = true := decide_eq_true (by omega)
          have d3 : decide ((i : Int) < 0) = false := decide_eq_false (by omega)
          obtain ⟨n, rfl⟩ : ∃ n, i = n + 1 := ⟨i - 1, by omega⟩
          have hfi : findM (l.drop 1) = some n := find_at (by rw [List.getElem?_drop, Nat.add_comm 1 n, hy, c1.1]) (fun j hj => by rw [List.getElem?_drop]; exact hno _ (by omega) (by omega))
          have SL := (S5.lo (k := n + 2) (by omega)).1
          have SL2 := (S5.lo (k := n + 2) (by omega)).2
          have wi2 : IntKind.i64.wrap (((n + 1 : Nat) : Int) + 1) = ((n + 2 : Nat) : Int) := by rw [IntWalk.i64_in _ (by omega)]; omega
          have hVr : Var h4 rb [rv, .int .i64 g, .int .i64 o] := Keeps.var H K4 V
          obtain ⟨h7, e7, V7, C7, z7⟩ := hVr.store1 (P := prog) (t := 22) (v := sliceV lw 1 (n + 2) l.length) (i := 0) (Ch.wf K4) asz22 (by simp) (Rd.one SL2.1)
          simp only [List.set_cons_zero] at V7
          have hD7 : ∀ b, blkOf lw = some b → ¬ (b = rb) := fun b e f => by rw [B5] at e; have := hb b e; omega
          have S7 := Ch.rd C7 S5 hD7
          have SH := Rd.sliceHi S7 underlying22 asz21 (q' := .i64) (j := ((n + 1 : Nat) : Int)) (by omega) (by omega)
          rw [Int.toNat_natCast] at SH
          have S8 : RdI prog h7 .i32 (sliceV lw 1 0 (n + 1)) (l.take (n + 1)) := by
            have := RdI.part (P := prog) (k := .i32) (show RdI prog h7 .i32 lw l from S7) (L := 0) (H := n + 1) (by omega) (by omega)
            simpa using this
          simp only [wk, wt, wl, ↓reduceIte, Nat.reduceEqDiff, Nat.reduceAdd, Nat.zero_add, not_false_eq_true, not_true_eq_false, t0, t2, t3, t4, t5, t28, t30, IX, LX, d1, d2, d3, wi, pt, wi2, SL, e7, SH]
          have X0 : SetI h h7 rb pb (l.drop (n + 2)) g o true (sliceV lw 1 0 (n + 1)) nilS (l.take (n + 1)) [] := ⟨S8, fun b e => hb b (by rw [sliceV_blk, B5] at e; exact e), ⟨hpl, hpr⟩, Ch.var (Ch.wf K4) C7 V24 (by omega), Ch.var (Ch.wf K4) C7 V4 (by omega), OS.nil, (fun b e => by cases e),
            ⟨_, V7, Ch.rd C7 SL2.1 (fun b e => hD7 b (by rw [sliceV_blk] at e; exact e)), fun b e => hb b (by rw [sliceV_blk, B5] at e; exact e), hpr, by rw [z7]; exact Nat.lt_of_lt_of_le hpl (Ch.le K4)⟩, (K4.mono (D' := Bx rb) fun _ e => e.elim).then C7 fun b e => .inr e, by rw [z7]; exact hz4⟩
          have hM : setM (94 :: l) = setR true l := setM_nt
          have hlt : (l.take (n + 1)).length = n + 1 := by rw [List.length_take]; omega
          have h32' : I32 (l.take (n + 1)) := fun y hy => h32' y (List.mem_of_mem_take hy)
          refine W_loopI (fun k tm hh => tm 0 = pt rb ∧ tm 2 = pt h.size ∧ tm 3 = pt (h.size + 1) ∧ ∃ w sv r acc m, tm 4 = w ∧ SetI h hh rb pb (l.drop (n + 2)) g o true w sv r acc ∧ r.length = k ∧ k < m ∧ acc.length + k ≤ n + 1 ∧ spansM (n + 2) [] (l.take (n + 1)) = spansM m acc r ∧ I32 r)
            ⟨n + 1, (by first | rfl | (simp only [wk, wt, wl, ↓reduceIte, Nat.reduceEqDiff, Nat.reduceAdd, Nat.zero_add, not_false_eq_true, not_true_eq_false]; done) | (simp only [wk, wt, wl, ↓reduceIte, Nat.reduceEqDiff, Nat.reduceAdd, Nat.zero_add, not_false_eq_true, not_true_eq_false]; rfl) | (simp only [wk, wt, wl, ↓reduceIte, Nat.reduceEqDiff, Nat.reduceAdd, Nat.zero_add, not_false_eq_true, not_true_eq_false, t0, pt]; done) | (simp only [wk, wt, wl, ↓reduceIte, Nat.reduceEqDiff, Nat.reduceAdd, Nat.zero_add, not_false_eq_true, not_true_eq_false, t0, pt]; rfl)), (by first | rfl | (simp only [wk, wt, wl, ↓reduceIte, Nat.reduceEqDiff, Nat.reduceAdd, Nat.zero_add, not_false_eq_true, not_true_eq_false]; done) | (simp only [wk, wt, wl, ↓reduceIte, Nat.reduceEqDiff, Nat.reduceAdd, Nat.zero_add, not_false_eq_true, not_true_eq_false]; rfl) | (simp only [wk, wt, wl, ↓reduceIte, Nat.reduceEqDiff, Nat.reduceAdd, Nat.zero_add, not_false_eq_true, not_true_eq_false, t2, pt]; done) | (simp only [wk, wt, wl, ↓reduceIte, Nat.reduceEqDiff, Nat.reduceAdd, Nat.zero_add, not_false_eq_true, not_true_eq_false, t2, pt]; rfl)), (by first | rfl | (simp only [wk, wt, wl, ↓reduceIte, Nat.reduceEqDiff, Nat.reduceAdd, Nat.zero_add, not_false_eq_true, not_true_eq_false]; done) | (simp only [wk, wt, wl, ↓reduceIte, Nat.reduceEqDiff, Nat.reduceAdd, Nat.zero_add, not_false_eq_true, not_true_eq_false]; rfl) | (simp only [wk, wt, wl, ↓reduceIte, Nat.reduceEqDiff, Nat.reduceAdd, Nat.zero_add, not_false_eq_true, not_true_eq_false, t3, pt]; done) | (simp only [wk, wt, wl, ↓reduceIte, Nat.reduceEqDiff, Nat.reduceAdd, Nat.zero_add, not_false_eq_true, not_true_eq_false, t3, pt]; rfl)), _, _, _, _, n + 2, (by first | rfl | (simp only [wk, wt, wl, ↓reduceIte, Nat.reduceEqDiff, Nat.reduceAdd, Nat.zero_add, not_false_eq_true, not_true_eq_false]; done) | (simp only [wk, wt, wl, ↓reduceIte, Nat.reduceEqDiff, Nat.reduceAdd, Nat.zero_add, not_false_eq_true, not_true_eq_false]; rfl)), X0, hlt, by omega, by simp, rfl, h32'⟩ ?_
          clear t0 t2 t3 t4 t5 t28 t29 t30 X0 S7 S8 SH
          rintro k tm hh ⟨t0, t2, t3, w, sv, r, acc, m, t4, X, hk, hn, hL, hg, h32⟩
          obtain ⟨m, rfl⟩ : ∃ q, m = q + 1 := ⟨m - 1, by omega⟩
          rcases r with _ | ⟨x, r⟩
          · have LN := X.S.ln (n := 0) rfl
            have d0 : decide ((0 : Int) < 0) = false := rfl
            have o1 : one sv = true := Rd.one X.O.1
            obtain ⟨h9, e9, V9, C9, z9⟩ := X.V2.put (Ch.wf X.C) (d := setC sv true) o1 rfl
            simp only [wk, wt, wl, ↓reduceIte, Nat.reduceEqDiff, Nat.reduceAdd, Nat.zero_add, not_false_eq_true, not_true_eq_false, t0, t2, t3, t4, LN, d0, pt, X.V3.re, e9, V9.re]
            have hC9 : Ch (Bx rb) h h9 := X.C.then C9 fun b e => .inl (by omega)
            refine ⟨pS acc true, l.drop (n + 2), setC sv true, ?_, rfl, ReR.set (Ch.rd C9 X.O.1 fun b e => by have := X.hs b e; omega) (fun b e f => ?_), X.R.ch (Ch.wf X.C) C9 (by omega) (by omega), hC9⟩
            · rw [hM]; unfold setR; rw [hfi]; simp only; rw [hg]; rfl
            · have := X.hs b e; have : b < h.size := f; omega
          · have LN := X.S.ln (n := (r.length : Int) + 1) (by simp)
            have d0 : decide (0 < (r.length : Int) + 1) = true := decide_eq_true (by omega)
            have IX : aindexAddr prog 22 w (.int .i64 0) = _ := (X.S.ix (i := 0) rfl).1
            have LX := (X.S.ix (i := 0) rfl).2
            have hx := h32 x (by simp)
            have cvx := cv32 hx.1 hx.2
            have Hh := Ch.wf X.C
            have N1 := Keeps.new Hh 50 [.int .i64 0, .int .i64 0]
            obtain ⟨h4, e4, V4, C4, z4⟩ := (Var.new (e := 50) Hh (cs := [.int .i64 0, .int .i64 0])).store (P := prog) (t := 50) (v := .agg #[.int .i64 x, .int .i64 x]) (i := 0) (Ch.wf N1) asz50 (by simp [Value.cells]) (by simp [Value.cells, one])
            have V4' : Var h4 hh.size [.int .i64 x, .int .i64 x] := V4
            have K4 := N1.step C4 fun b e => by omega
            have X4 := X.keeps H K4
            have L0 := fun {hq : Heap} {a b : Int} (V : Var hq hh.size [.int .i64 a, .int .i64 b]) => V.load1 (P := prog) (t := 3) underlying3 rfl (i := 0)
            have L1 := fun {hq : Heap} {a b : Int} (V : Var hq hh.size [.int .i64 a, .int .i64 b]) => V.load1 (P := prog) (t := 3) underlying3 rfl (i := 1)
            simp only [List.getElem?_cons_succ, List.getElem?_cons_zero] at L0 L1
            simp only [wk, wt, wl, ↓reduceIte, Nat.reduceEqDiff, Nat.reduceAdd, Nat.zero_add, not_false_eq_true, not_true_eq_false, t0, t2, t3, t4, LN, d0, pt]
            refine adraw_order [(0, false), (1, false), (2, false), (3, false), (4, false), (5, false), (6, false), (7, false), (8, false), (9, true), (10, false), (11, false)] mixed (by kernel_rfl) (by kernel_rfl) (by kernel_rfl) (by with_reducible repeat (first | exact PF_retK | refine PF_thenK ?_ | refine PF_blockK ?_)) ?_
            simp only [wk, wt, wl, ↓reduceIte, Nat.reduceEqDiff, Nat.reduceAdd, Nat.zero_add, not_false_eq_true, not_true_eq_false, dK_t, t0, t2, t3, t4, IX, LX, cvx, build_sp, e4]
            refine ⟨N1.reads Hh, ?_⟩
            have LN4 := X4.S.ln (n := (r.length : Int) + 1) (by simp)
            rcases r with _ | ⟨y, _ | ⟨z, r⟩⟩
            · have d5 : decide (2 < ((([] : List Int).length : Nat) : Int) + 1) = false := rfl
              have hg1 := hg.trans (spans_one (fun z u e => by cases e))
              simp only [wk, wt, wl, ↓reduceIte, Nat.reduceEqDiff, Nat.reduceAdd, Nat.zero_add, not_false_eq_true, not_true_eq_false, t0, t2, t3, t4, pt, LN4, d5]
              have d9 := L1 V4'
              have d8 := L0 V4'
              by_cases c9 : x < x
              · have e9 := decide_eq_true c9
                rw [if_pos c9] at hg1
                simp only [wk, wt, wl, ↓reduceIte, Nat.reduceEqDiff, Nat.reduceAdd, Nat.zero_add, not_false_eq_true, not_true_eq_false, t0, t2, t3, t4, d9, d8, e9, build_fault, conc_fault]
                exact ⟨5, by rw [hM]; unfold setR; rw [hfi]; simp only; rw [hg1], rfl, X4.C⟩
              · have e9 := decide_eq_false c9
                rw [if_neg c9] at hg1
                obtain ⟨v8, h8, h9, q1, q2, q3, X9⟩ := X4.push H hrl (x, x) (by omega) (k := 1) (by simp)
                have q3' : aslice prog h9 22 w (some (.int .i64 1)) none none = some (sliceV w 1 1 _) := q3
                have q1' : aappend prog (h4.new 50 [.int .i64 x, .int .i64 x]) 23 23 sv (.slice (some ⟨h4.size, 0, none⟩) 1 2) = some (v8, h8) := q1
                have LA := V4'.loadA (P := prog) (t := 50) underlying50 rfl asz50
                have LF := X4.V3.load1 (P := prog) (t := 23) underlying23 rfl (i := 2)
                simp only [reC, setC, List.getElem?_cons_succ, List.getElem?_cons_zero] at LF
                simp only [wk, wt, wl, ↓reduceIte, Nat.reduceEqDiff, Nat.reduceAdd, Nat.zero_add, not_false_eq_true, not_true_eq_false, t0, t2, t3, t4, pt, d9, d8, e9, LF, LA, bsSp, q1', q2, q3']
                simp only [List.length_cons, List.length_nil] at hk hn hL
                exact ⟨([]).length, by (try simp only [List.length_cons, List.length_nil]); omega, _, v8, _, _, m, rfl, X9, rfl, by (try simp only [List.length_cons, List.length_nil]); omega, by (try simp only [List.length_cons, List.length_nil, List.length_append]); omega, hg1, fun y hy => h32 y (List.mem_of_mem_drop (i := 1) hy)⟩
            · have d5 : decide (2 < (([y].length : Nat) : Int) + 1) = false := rfl
              have hg1 := hg.trans (spans_one (fun z u e => by cases e))
              simp only [wk, wt, wl, ↓reduceIte, Nat.reduceEqDiff, Nat.reduceAdd, Nat.zero_add, not_false_eq_true, not_true_eq_false, t0, t2, t3, t4, pt, LN4, d5]
              have d9 := L1 V4'
              have d8 := L0 V4'
              by_cases c9 : x < x
              · have e9 := decide_eq_true c9
                rw [if_pos c9] at hg1
                simp only [wk, wt, wl, ↓reduceIte, Nat.reduceEqDiff, Nat.reduceAdd, Nat.zero_add, not_false_eq_true, not_true_eq_false, t0, t2, t3, t4, d9, d8, e9, build_fault, conc_fault]
                exact ⟨5, by rw [hM]; unfold setR; rw [hfi]; simp only; rw [hg1], rfl, X4.C⟩
              · have e9 := decide_eq_false c9
                rw [if_neg c9] at hg1
                obtain ⟨v8, h8, h9, q1, q2, q3, X9⟩ := X4.push H hrl (x, x) (by omega) (k := 1) (by simp)
                have q3' : aslice prog h9 22 w (some (.int .i64 1)) none none = some (sliceV w 1 1 _) := q3
                have q1' : aappend prog (h4.new 50 [.int .i64 x, .int .i64 x]) 23 23 sv (.slice (some ⟨h4.size, 0, none⟩) 1 2) = some (v8, h8) := q1
                have LA := V4'.loadA (P := prog) (t := 50) underlying50 rfl asz50
                have LF := X4.V3.load1 (P := prog) (t := 23) underlying23 rfl (i := 2)
                simp only [reC, setC, List.getElem?_cons_succ, List.getElem?_cons_zero] at LF
                simp only [wk, wt, wl, ↓reduceIte, Nat.reduceEqDiff, Nat.reduceAdd, Nat.zero_add, not_false_eq_true, not_true_eq_false, t0, t2, t3, t4, pt, d9, d8, e9, LF, LA, bsSp, q1', q2, q3']
                simp only [List.length_cons, List.length_nil] at hk hn hL
                exact ⟨([y]).length, by (try simp only [List.length_cons, List.length_nil]); omega, _, v8, _, _, m, rfl, X9, rfl, by (try simp only [List.length_cons, List.length_nil]); omega, by (try simp only [List.length_cons, List.length_nil, List.length_append]); omega, hg1, fun y hy => h32 y (List.mem_of_mem_drop (i := 1) hy)⟩
            · have d5 : decide (2 < (((y :: z :: r).length : Nat) : Int) + 1) = true := decide_eq_true (by simp; omega)
              have IY : aindexAddr prog 22 w (.int .i64 1) = _ := (X4.S.ix (i := 1) rfl).1
              have LY := (X4.S.ix (i := 1) rfl).2
              by_cases c6 : y = 45
              · have d6 := decide_eq_true c6
                subst c6
                have hg1 := hg.trans spans_two
                have IZ : aindexAddr prog 22 w (.int .i64 2) = _ := (X4.S.ix (i := 2) rfl).1
                have LZ := (X4.S.ix (i := 2) rfl).2
                have hz := h32 z (by simp)
                have cvz := cv32 hz.1 hz.2
                obtain ⟨h5, e5, V5, C5, z5⟩ := V4'.store1 (P := prog) (t := 3) (v := .int .i64 z) (i := 1) (Ch.wf K4) asz3 (by simp) rfl
                simp only [List.set_cons_succ, List.set_cons_zero] at V5
                have K5 := K4.step C5 fun b e => by omega
                have X5 := X.keeps H K5
                simp only [wk, wt, wl, ↓reduceIte, Nat.reduceEqDiff, Nat.reduceAdd, Nat.zero_add, not_false_eq_true, not_true_eq_false, t0, t2, t3, t4, pt, LN4, d5, IY, LY, d6, IZ, LZ, cvz, e5]
                have d9 := L1 V5
                have d8 := L0 V5
                by_cases c9 : z < x
                · have e9 := decide_eq_true c9
                  rw [if_pos c9] at hg1
                  simp only [wk, wt, wl, ↓reduceIte, Nat.reduceEqDiff, Nat.reduceAdd, Nat.zero_add, not_false_eq_true, not_true_eq_false, t0, t2, t3, t4, d9, d8, e9, build_fault, conc_fault]
                  exact ⟨5, by rw [hM]; unfold setR; rw [hfi]; simp only; rw [hg1], rfl, X5.C⟩
                · have e9 := decide_eq_false c9
                  rw [if_neg c9] at hg1
                  obtain ⟨v8, h8, h9, q1, q2, q3, X9⟩ := X5.push H hrl (x, z) (by omega) (k := 3) (by simp)
                  have q3' : aslice prog h9 22 w (some (.int .i64 3)) none none = some (sliceV w 1 3 _) := q3
                  have q1' : aappend prog (h5.new 50 [.int .i64 x, .int .i64 z]) 23 23 sv (.slice (some ⟨h5.size, 0, none⟩) 1 2) = some (v8, h8) := q1
                  have LA := V5.loadA (P := prog) (t := 50) underlying50 rfl asz50
                  have LF := X5.V3.load1 (P := prog) (t := 23) underlying23 rfl (i := 2)
                  simp only [reC, setC, List.getElem?_cons_succ, List.getElem?_cons_zero] at LF
                  simp only [wk, wt, wl, ↓reduceIte, Nat.reduceEqDiff, Nat.reduceAdd, Nat.zero_add, not_false_eq_true, not_true_eq_false, t0, t2, t3, t4, pt, d9, d8, e9, LF, LA, bsSp, q1', q2, q3']
                  simp only [List.length_cons, List.length_nil] at hk hn hL
                  exact ⟨(r).length, by (try simp only [List.length_cons, List.length_nil]); omega, _, v8, _, _, m, rfl, X9, rfl, by (try simp only [List.length_cons, List.length_nil]); omega, by (try simp only [List.length_cons, List.length_nil, List.length_append]); omega, hg1, fun y hy => h32 y (List.mem_of_mem_drop (i := 3) hy)⟩
              · have d6 := decide_eq_false c6
                have hg1 := hg.trans (spans_one (fun z' u e => by cases e; exact c6 rfl))
                simp only [wk, wt, wl, ↓reduceIte, Nat.reduceEqDiff, Nat.reduceAdd, Nat.zero_add, not_false_eq_true, not_true_eq_false, t0, t2, t3, t4, pt, LN4, d5, IY, LY, d6]
                have d9 := L1 V4'
                have d8 := L0 V4'
                by_cases c9 : x < x
                · have e9 := decide_eq_true c9
                  rw [if_pos c9] at hg1
                  simp only [wk, wt, wl, ↓reduceIte, Nat.reduceEqDiff, Nat.reduceAdd, Nat.zero_add, not_false_eq_true, not_true_eq_false, t0, t2, t3, t4, d9, d8, e9, build_fault, conc_fault]
                  exact ⟨5, by rw [hM]; unfold setR; rw [hfi]; simp only; rw [hg1], rfl, X4.C⟩
                · have e9 := decide_eq_false c9
                  rw [if_neg c9] at hg1
                  obtain ⟨v8, h8, h9, q1, q2, q3, X9⟩ := X4.push H hrl (x, x) (by omega) (k := 1) (by simp)
                  have q3' : aslice prog h9 22 w (some (.int .i64 1)) none none = some (sliceV w 1 1 _) := q3
                  have q1' : aappend prog (h4.new 50 [.int .i64 x, .int .i64 x]) 23 23 sv (.slice (some ⟨h4.size, 0, none⟩) 1 2) = some (v8, h8) := q1
                  have LA := V4'.loadA (P := prog) (t := 50) underlying50 rfl asz50
                  have LF := X4.V3.load1 (P := prog) (t := 23) underlying23 rfl (i := 2)
                  simp only [reC, setC, List.getElem?_cons_succ, List.getElem?_cons_zero] at LF
                  simp only [wk, wt, wl, ↓reduceIte, Nat.reduceEqDiff, Nat.reduceAdd, Nat.zero_add, not_false_eq_true, not_true_eq_false, t0, t2, t3, t4, pt, d9, d8, e9, LF, LA, bsSp, q1', q2, q3']
                  simp only [List.length_cons, List.length_nil] at hk hn hL
                  exact ⟨(y :: z :: r).length, by (try simp only [List.length_cons, List.length_nil]); omega, _, v8, _, _, m, rfl, X9, rfl, by (try simp only [List.length_cons, List.length_nil]); omega, by (try simp only [List.length_cons, List.length_nil, List.length_append]); omega, hg1, fun y hy => h32 y (List.mem_of_mem_drop (i := 1) hy)⟩
        · have nx : ∀ j, 1 ≤ j → j < i + 1 → l[j]? ≠ some 93 := fun j h1 h2 => by
            rcases Nat.lt_or_eq_of_le (Nat.lt_succ_iff.1 h2) with e | rfl
            · exact hno j h1 e
            · rw [hy]; intro e; cases e; exact c1 ⟨rfl, by omega⟩
          by_cases c2 : y = 93
          · have d1 := decide_eq_true c2
            have d2 : decide (0 < (i : Int)) = false := decide_eq_false (fun e => c1 ⟨c2, by omega⟩)
            simp only [wk, wt, wl, ↓reduceIte, Nat.reduceEqDiff, Nat.reduceAdd, Nat.zero_add, not_false_eq_true, not_true_eq_false, t0, t2, t3, t4, t5, t28, t29, t30, IX, LX, d1, d2, wi, intOf_int]
            exact ⟨⟨i + 1, rfl, by omega, nx⟩, by omega⟩
          · have d1 := decide_eq_false c2
            simp only [wk, wt, wl, ↓reduceIte, Nat.reduceEqDiff, Nat.reduceAdd, Nat.zero_add, not_false_eq_true, not_true_eq_false, t0, t2, t3, t4, t5, t28, t29, t30, IX, LX, d1, wi, intOf_int]
            exact ⟨⟨i + 1, rfl, by omega, nx⟩, by omega⟩
      · have d3 : decide ((-1 : Int) < 0) = true := rfl
        have hM : setM (94 :: l) = setR true l := setM_nt
        have hfi : findM (l.drop 1) = none := find_none fun j e => by
          rw [List.getElem?_drop] at e
          have := (List.getElem?_eq_some_iff.1 e).1
          exact hno _ (by omega) (by omega) e
        simp only [wk, wt, wl, ↓reduceIte, Nat.reduceEqDiff, Nat.reduceAdd, Nat.zero_add, not_false_eq_true, not_true_eq_false, t5, d3, build_fault, conc_fault]
        exact ⟨10, by rw [hM]; unfold setR; rw [hfi], rfl, K4.mono fun _ e => e.elim⟩
    · have d5 := decide_eq_false ca
      simp only [wk, wt, wl, ↓reduceIte, Nat.reduceEqDiff, Nat.reduceAdd, Nat.zero_add, not_false_eq_true, not_true_eq_false, pt, newRe, newSz, bk, e3, LD0, SL, LN4, d4, IA, LA, d5]
      have LNL := S4.ln (n := ((a :: l).length : Int)) rfl
      refine W_loop (fun tm h' => h3 = h' ∧ tm 0 = pt rb ∧ tm 2 = pt h.size ∧ tm 3 = pt (h.size + 1) ∧ tm 4 = lv ∧ tm 5 = .int .i64 (-1) ∧ tm 28 = lv ∧ tm 29 = .int .i64 ((a :: l).length : Int) ∧ ∃ i : Nat, tm 30 = .int .i64 (i : Int) ∧ i ≤ (a :: l).length ∧ ∀ j, 1 ≤ j → j < i → (a :: l)[j]? ≠ some 93)
        (fun tm _ => ((a :: l).length - intOf (tm 30)).toNat) ⟨rfl, (by first | rfl | (simp only [wk, wt, wl, ↓reduceIte, Nat.reduceEqDiff, Nat.reduceAdd, Nat.zero_add, not_false_eq_true, not_true_eq_false]; done) | (simp only [wk, wt, wl, ↓reduceIte, Nat.reduceEqDiff, Nat.reduceAdd, Nat.zero_add, not_false_eq_true, not_true_eq_false]; rfl) | (simp only [wk, wt, wl, ↓reduceIte, Nat.reduceEqDiff, Nat.reduceAdd, Nat.zero_add, not_false_eq_true, not_true_eq_false, pt]; done) | (simp only [wk, wt, wl, ↓reduceIte, Nat.reduceEqDiff, Nat.reduceAdd, Nat.zero_add, not_false_eq_true, not_true_eq_false, pt]; rfl)), (by first | rfl | (simp only [wk, wt, wl, ↓reduceIte, Nat.reduceEqDiff, Nat.reduceAdd, Nat.zero_add, not_false_eq_true, not_true_eq_false]; done) | (simp only [wk, wt, wl, ↓reduceIte, Nat.reduceEqDiff, Nat.reduceAdd, Nat.zero_add, not_false_eq_true, not_true_eq_false]; rfl) | (simp only [wk, wt, wl, ↓reduceIte, Nat.reduceEqDiff, Nat.reduceAdd, Nat.zero_add, not_false_eq_true, not_true_eq_false, pt]; done) | (simp only [wk, wt, wl, ↓reduceIte, Nat.reduceEqDiff, Nat.reduceAdd, Nat.zero_add, not_false_eq_true, not_true_eq_false, pt]; rfl)), (by first | rfl | (simp only [wk, wt, wl, ↓reduceIte, Nat.reduceEqDiff, Nat.reduceAdd, Nat.zero_add, not_false_eq_true, not_true_eq_false]; done) | (simp only [wk, wt, wl, ↓reduceIte, Nat.reduceEqDiff, Nat.reduceAdd, Nat.zero_add, not_false_eq_true, not_true_eq_false]; rfl) | (simp only [wk, wt, wl, ↓reduceIte, Nat.reduceEqDiff, Nat.reduceAdd, Nat.zero_add, not_false_eq_true, not_true_eq_false, pt]; done) | (simp only [wk, wt, wl, ↓reduceIte, Nat.reduceEqDiff, Nat.reduceAdd, Nat.zero_add, not_false_eq_true, not_true_eq_false, pt]; rfl)), (by first | rfl | (simp only [wk, wt, wl, ↓reduceIte, Nat.reduceEqDiff, Nat.reduceAdd, Nat.zero_add, not_false_eq_true, not_true_eq_false]; done) | (simp only [wk, wt, wl, ↓reduceIte, Nat.reduceEqDiff, Nat.reduceAdd, Nat.zero_add, not_false_eq_true, not_true_eq_false]; rfl) | (simp only [wk, wt, wl, ↓reduceIte, Nat.reduceEqDiff, Nat.reduceAdd, Nat.zero_add, not_false_eq_true, not_true_eq_false, pt]; done) | (simp only [wk, wt, wl, ↓reduceIte, Nat.reduceEqDiff, Nat.reduceAdd, Nat.zero_add, not_false_eq_true, not_true_eq_false, pt]; rfl)), (by first | rfl | (simp only [wk, wt, wl, ↓reduceIte, Nat.reduceEqDiff, Nat.reduceAdd, Nat.zero_add, not_false_eq_true, not_true_eq_false]; done) | (simp only [wk, wt, wl, ↓reduceIte, Nat.reduceEqDiff, Nat.reduceAdd, Nat.zero_add, not_false_eq_true, not_true_eq_false]; rfl) | (simp only [wk, wt, wl, ↓reduceIte, Nat.reduceEqDiff, Nat.reduceAdd, Nat.zero_add, not_false_eq_true, not_true_eq_false, pt]; done) | (simp only [wk, wt, wl, ↓reduceIte, Nat.reduceEqDiff, Nat.reduceAdd, Nat.zero_add, not_false_eq_true, not_true_eq_false, pt]; rfl)), (by first | rfl | (simp only [wk, wt, wl, ↓reduceIte, Nat.reduceEqDiff, Nat.reduceAdd, Nat.zero_add, not_false_eq_true, not_true_eq_false]; done) | (simp only [wk, wt, wl, ↓reduceIte, Nat.reduceEqDiff, Nat.reduceAdd, Nat.zero_add, not_false_eq_true, not_true_eq_false]; rfl) | (simp only [wk, wt, wl, ↓reduceIte, Nat.reduceEqDiff, Nat.reduceAdd, Nat.zero_add, not_false_eq_true, not_true_eq_false, pt]; done) | (simp only [wk, wt, wl, ↓reduceIte, Nat.reduceEqDiff, Nat.reduceAdd, Nat.zero_add, not_false_eq_true, not_true_eq_false, pt]; rfl)), (by first | rfl | (simp only [wk, wt, wl, ↓reduceIte, Nat.reduceEqDiff, Nat.reduceAdd, Nat.zero_add, not_false_eq_true, not_true_eq_false]; done) | (simp only [wk, wt, wl, ↓reduceIte, Nat.reduceEqDiff, Nat.reduceAdd, Nat.zero_add, not_false_eq_true, not_true_eq_false]; rfl) | (simp only [wk, wt, wl, ↓reduceIte, Nat.reduceEqDiff, Nat.reduceAdd, Nat.zero_add, not_false_eq_true, not_true_eq_false, pt]; done) | (simp only [wk, wt, wl, ↓reduceIte, Nat.reduceEqDiff, Nat.reduceAdd, Nat.zero_add, not_false_eq_true, not_true_eq_false, pt]; rfl)), 0, (by first | rfl | (simp only [wk, wt, wl, ↓reduceIte, Nat.reduceEqDiff, Nat.reduceAdd, Nat.zero_add, not_false_eq_true, not_true_eq_false]; done) | (simp only [wk, wt, wl, ↓reduceIte, Nat.reduceEqDiff, Nat.reduceAdd, Nat.zero_add, not_false_eq_true, not_true_eq_false]; rfl)), by omega, fun j h1 h2 => by omega⟩ ?_
      rintro tm _ ⟨rfl, t0, t2, t3, t4, t5, t28, t29, i, t30, hi, hno⟩
      simp only [wk, wt, wl, ↓reduceIte, Nat.reduceEqDiff, Nat.reduceAdd, Nat.zero_add, not_false_eq_true, not_true_eq_false, t30, t29]
      refine condK_dec (fun hd => ?_) (fun hd => ?_)
      · have hi1 : i < (a :: l).length := by omega
        obtain ⟨y, hy⟩ : ∃ y, (a :: l)[i]? = some y := ⟨_, List.getElem?_eq_getElem hi1⟩
        have IX := (S4.ix hy).1
        have LX := (S4.ix hy).2
        have wi : IntKind.i64.wrap ((i : Int) + 1) = ((i + 1 : Nat) : Int) := by rw [IntWalk.i64_in _ (by omega)]; omega
        by_cases c1 : y = 93 ∧ 0 < i
        · have d1 := decide_eq_true c1.1
          have d2 : decide (0 < (i : Int)) = true := decide_eq_true (by omega)
          have d3 : decide ((i : Int) < 0) = false := decide_eq_false (by omega)
          obtain ⟨n, rfl⟩ : ∃ n, i = n + 1 := ⟨i - 1, by omega⟩
          have hfi : findM ((a :: l).drop 1) = some n := find_at (by rw [List.getElem?_drop, Nat.add_comm 1 n, hy, c1.1]) (fun j hj => by rw [List.getElem?_drop]; exact hno _ (by omega) (by omega))
          have SL := (S4.lo (k := n + 2) (by omega)).1
          have SL2 := (S4.lo (k := n + 2) (by omega)).2
          have wi2 : IntKind.i64.wrap (((n + 1 : Nat) : Int) + 1) = ((n + 2 : Nat) : Int) := by rw [IntWalk.i64_in _ (by omega)]; omega
          have hVr : Var h3 rb [rv, .int .i64 g, .int .i64 o] := Keeps.var H K3 V
          obtain ⟨h7, e7, V7, C7, z7⟩ := hVr.store1 (P := prog) (t := 22) (v := sliceV lv 1 (n + 2) (a :: l).length) (i := 0) (Ch.wf K3) asz22 (by simp) (Rd.one SL2.1)
          simp only [List.set_cons_zero] at V7
          have hD7 : ∀ b, blkOf lv = some b → ¬ (b = rb) := fun b e f => by rw [B4] at e; have := hb b e; omega
          have S7 := Ch.rd C7 S4 hD7
          have SH := Rd.sliceHi S7 underlying22 asz21 (q' := .i64) (j := ((n + 1 : Nat) : Int)) (by omega) (by omega)
          rw [Int.toNat_natCast] at SH
          have S8 : RdI prog h7 .i32 (sliceV lv 1 0 (n + 1)) ((a :: l).take (n + 1)) := by
            have := RdI.part (P := prog) (k := .i32) (show RdI prog h7 .i32 lv (a :: l) from S7) (L := 0) (H := n + 1) (by omega) (by omega)
            simpa using this
          simp only [wk, wt, wl, ↓reduceIte, Nat.reduceEqDiff, Nat.reduceAdd, Nat.zero_add, not_false_eq_true, not_true_eq_false, t0, t2, t3, t4, t5, t28, t30, IX, LX, d1, d2, d3, wi, pt, wi2, SL, e7, SH]
          have X0 : SetI h h7 rb pb ((a :: l).drop (n + 2)) g o false (sliceV lv 1 0 (n + 1)) nilS ((a :: l).take (n + 1)) [] := ⟨S8, fun b e => hb b (by rw [sliceV_blk, B4] at e; exact e), ⟨hpl, hpr⟩, Ch.var (Ch.wf K3) C7 V23 (by omega), Ch.var (Ch.wf K3) C7 V3' (by omega), OS.nil, (fun b e => by cases e),
            ⟨_, V7, Ch.rd C7 SL2.1 (fun b e => hD7 b (by rw [sliceV_blk] at e; exact e)), fun b e => hb b (by rw [sliceV_blk, B4] at e; exact e), hpr, by rw [z7]; exact Nat.lt_of_lt_of_le hpl (Ch.le K3)⟩, (K3.mono (D' := Bx rb) fun _ e => e.elim).then C7 fun b e => .inr e, by rw [z7]; exact hz3⟩
          have hM : setM (a :: l) = setR false (a :: l) := (setM_no (by simp [ca]))
          have hlt : ((a :: l).take (n + 1)).length = n + 1 := by rw [List.length_take]; omega
          have h32' : I32 ((a :: l).take (n + 1)) := fun y hy => h32 y (List.mem_of_mem_take hy)
          refine W_loopI (fun k tm hh => tm 0 = pt rb ∧ tm 2 = pt h.size ∧ tm 3 = pt (h.size + 1) ∧ ∃ w sv r acc m, tm 4 = w ∧ SetI h hh rb pb ((a :: l).drop (n + 2)) g o false w sv r acc ∧ r.length = k ∧ k < m ∧ acc.length + k ≤ n + 1 ∧ spansM (n + 2) [] ((a :: l).take (n + 1)) = spansM m acc r ∧ I32 r)
            ⟨n + 1, (by first | rfl | (simp only [wk, wt, wl, ↓reduceIte, Nat.reduceEqDiff, Nat.reduceAdd, Nat.zero_add, not_false_eq_true, not_true_eq_false]; done) | (simp only [wk, wt, wl, ↓reduceIte, Nat.reduceEqDiff, Nat.reduceAdd, Nat.zero_add, not_false_eq_true, not_true_eq_false]; rfl) | (simp only [wk, wt, wl, ↓reduceIte, Nat.reduceEqDiff, Nat.reduceAdd, Nat.zero_add, not_false_eq_true, not_true_eq_false, t0, pt]; done) | (simp only [wk, wt, wl, ↓reduceIte, Nat.reduceEqDiff, Nat.reduceAdd, Nat.zero_add, not_false_eq_true, not_true_eq_false, t0, pt]; rfl)), (by first | rfl | (simp only [wk, wt, wl, ↓reduceIte, Nat.reduceEqDiff, Nat.reduceAdd, Nat.zero_add, not_false_eq_true, not_true_eq_false]; done) | (simp only [wk, wt, wl, ↓reduceIte, Nat.reduceEqDiff, Nat.reduceAdd, Nat.zero_add, not_false_eq_true, not_true_eq_false]; rfl) | (simp only [wk, wt, wl, ↓reduceIte, Nat.reduceEqDiff, Nat.reduceAdd, Nat.zero_add, not_false_eq_true, not_true_eq_false, t2, pt]; done) | (simp only [wk, wt, wl, ↓reduceIte, Nat.reduceEqDiff, Nat.reduceAdd, Nat.zero_add, not_false_eq_true, not_true_eq_false, t2, pt]; rfl)), (by first | rfl | (simp only [wk, wt, wl, ↓reduceIte, Nat.reduceEqDiff, Nat.reduceAdd, Nat.zero_add, not_false_eq_true, not_true_eq_false]; done) | (simp only [wk, wt, wl, ↓reduceIte, Nat.reduceEqDiff, Nat.reduceAdd, Nat.zero_add, not_false_eq_true, not_true_eq_false]; rfl) | (simp only [wk, wt, wl, ↓reduceIte, Nat.reduceEqDiff, Nat.reduceAdd, Nat.zero_add, not_false_eq_true, not_true_eq_false, t3, pt]; done) | (simp only [wk, wt, wl, ↓reduceIte, Nat.reduceEqDiff, Nat.reduceAdd, Nat.zero_add, not_false_eq_true, not_true_eq_false, t3, pt]; rfl)), _, _, _, _, n + 2, (by first | rfl | (simp only [wk, wt, wl, ↓reduceIte, Nat.reduceEqDiff, Nat.reduceAdd, Nat.zero_add, not_false_eq_true, not_true_eq_false]; done) | (simp only [wk, wt, wl, ↓reduceIte, Nat.reduceEqDiff, Nat.reduceAdd, Nat.zero_add, not_false_eq_true, not_true_eq_false]; rfl)), X0, hlt, by omega, by simp, rfl, h32'⟩ ?_
          clear t0 t2 t3 t4 t5 t28 t29 t30 X0 S7 S8 SH
          rintro k tm hh ⟨t0, t2, t3, w, sv, r, acc, m, t4, X, hk, hn, hL, hg, h32⟩
          obtain ⟨m, rfl⟩ : ∃ q, m = q + 1 := ⟨m - 1, by omega⟩
          rcases r with _ | ⟨x, r⟩
          · have LN := X.S.ln (n := 0) rfl
            have d0 : decide ((0 : Int) < 0) = false := rfl
            have o1 : one sv = true := Rd.one X.O.1
            obtain ⟨h9, e9, V9, C9, z9⟩ := X.V2.put (Ch.wf X.C) (d := setC sv false) o1 rfl
            simp only [wk, wt, wl, ↓reduceIte, Nat.reduceEqDiff, Nat.reduceAdd, Nat.zero_add, not_false_eq_true, not_true_eq_false, t0, t2, t3, t4, LN, d0, pt, X.V3.re, e9, V9.re]
            have hC9 : Ch (Bx rb) h h9 := X.C.then C9 fun b e => .inl (by omega)
            refine ⟨pS acc false, (a :: l).drop (n + 2), setC sv false, ?_, rfl, ReR.set (Ch.rd C9 X.O.1 fun b e => by have := X.hs b e; omega) (fun b e f => ?_), X.R.ch (Ch.wf X.C) C9 (by omega) (by omega), hC9⟩
            · rw [hM]; unfold setR; rw [hfi]; simp only; rw [hg]; rfl
            · have := X.hs b e; have : b < h.size := f; omega
          · have LN := X.S.ln (n := (r.length : Int) + 1) (by simp)
            have d0 : decide (0 < (r.length : Int) + 1) = true := decide_eq_true (by omega)
            have IX : aindexAddr prog 22 w (.int .i64 0) = _ := (X.S.ix (i := 0) rfl).1
            have LX := (X.S.ix (i := 0) rfl).2
            have hx := h32 x (by simp)
            have cvx := cv32 hx.1 hx.2
            have Hh := Ch.wf X.C
            have N1 := Keeps.new Hh 50 [.int .i64 0, .int .i64 0]
            obtain ⟨h4, e4, V4, C4, z4⟩ := (Var.new (e := 50) Hh (cs := [.int .i64 0, .int .i64 0])).store (P := prog) (t := 50) (v := .agg #[.int .i64 x, .int .i64 x]) (i := 0) (Ch.wf N1) asz50 (by simp [Value.cells]) (by simp [Value.cells, one])
            have V4' : Var h4 hh.size [.int .i64 x, .int .i64 x] := V4
            have K4 := N1.step C4 fun b e => by omega
            have X4 := X.keeps H K4
            have L0 := fun {hq : Heap} {a b : Int} (V : Var hq hh.size [.int .i64 a, .int .i64 b]) => V.load1 (P := prog) (t := 3) underlying3 rfl (i := 0)
            have L1 := fun {hq : Heap} {a b : Int} (V : Var hq hh.size [.int .i64 a, .int .i64 b]) => V.load1 (P := prog) (t := 3) underlying3 rfl (i := 1)
            simp only [List.getElem?_cons_succ, List.getElem?_cons_zero] at L0 L1
            simp only [wk, wt, wl, ↓reduceIte, Nat.reduceEqDiff, Nat.reduceAdd, Nat.zero_add, not_false_eq_true, not_true_eq_false, t0, t2, t3, t4, LN, d0, pt]
            refine adraw_order [(0, false), (1, false), (2, false), (3, false), (4, false), (5, false), (6, false), (7, false), (8, false), (9, true), (10, false), (11, false)] mixed (by kernel_rfl) (by kernel_rfl) (by kernel_rfl) (by with_reducible repeat (first | exact PF_retK | refine PF_thenK ?_ | refine PF_blockK ?_)) ?_
            simp only [wk, wt, wl, ↓reduceIte, Nat.reduceEqDiff, Nat.reduceAdd, Nat.zero_add, not_false_eq_true, not_true_eq_false, dK_t, t0, t2, t3, t4, IX, LX, cvx, build_sp, e4]
            refine ⟨N1.reads Hh, ?_⟩
            have LN4 := X4.S.ln (n := (r.length : Int) + 1) (by simp)
            rcases r with _ | ⟨y, _ | ⟨z, r⟩⟩
            · have d5 : decide (2 < ((([] : List Int).length : Nat) : Int) + 1) = false := rfl
              have hg1 := hg.trans (spans_one (fun z u e => by cases e))
              simp only [wk, wt, wl, ↓reduceIte, Nat.reduceEqDiff, Nat.reduceAdd, Nat.zero_add, not_false_eq_true, not_true_eq_false, t0, t2, t3, t4, pt, LN4, d5]
              have d9 := L1 V4'
              have d8 := L0 V4'
              by_cases c9 : x < x
              · have e9 := decide_eq_true c9
                rw [if_pos c9] at hg1
                simp only [wk, wt, wl, ↓reduceIte, Nat.reduceEqDiff, Nat.reduceAdd, Nat.zero_add, not_false_eq_true, not_true_eq_false, t0, t2, t3, t4, d9, d8, e9, build_fault, conc_fault]
                exact ⟨5, by rw [hM]; unfold setR; rw [hfi]; simp only; rw [hg1], rfl, X4.C⟩
              · have e9 := decide_eq_false c9
                rw [if_neg c9] at hg1
                obtain ⟨v8, h8, h9, q1, q2, q3, X9⟩ := X4.push H hrl (x, x) (by omega) (k := 1) (by simp)
                have q3' : aslice prog h9 22 w (some (.int .i64 1)) none none = some (sliceV w 1 1 _) := q3
                have q1' : aappend prog (h4.new 50 [.int .i64 x, .int .i64 x]) 23 23 sv (.slice (some ⟨h4.size, 0, none⟩) 1 2) = some (v8, h8) := q1
                have LA := V4'.loadA (P := prog) (t := 50) underlying50 rfl asz50
                have LF := X4.V3.load1 (P := prog) (t := 23) underlying23 rfl (i := 2)
                simp only [reC, setC, List.getElem?_cons_succ, List.getElem?_cons_zero] at LF
                simp only [wk, wt, wl, ↓reduceIte, Nat.reduceEqDiff, Nat.reduceAdd, Nat.zero_add, not_false_eq_true, not_true_eq_false, t0, t2, t3, t4, pt, d9, d8, e9, LF, LA, bsSp, q1', q2, q3']
                simp only [List.length_cons, List.length_nil] at hk hn hL
                exact ⟨([]).length, by (try simp only [List.length_cons, List.length_nil]); omega, _, v8, _, _, m, rfl, X9, rfl, by (try simp only [List.length_cons, List.length_nil]); omega, by (try simp only [List.length_cons, List.length_nil, List.length_append]); omega, hg1, fun y hy => h32 y (List.mem_of_mem_drop (i := 1) hy)⟩
            · have d5 : decide (2 < (([y].length : Nat) : Int) + 1) = false := rfl
              have hg1 := hg.trans (spans_one (fun z u e => by cases e))
              simp only [wk, wt, wl, ↓reduceIte, Nat.reduceEqDiff, Nat.reduceAdd, Nat.zero_add, not_false_eq_true, not_true_eq_false, t0, t2, t3, t4, pt, LN4, d5]
              have d9 := L1 V4'
              have d8 := L0 V4'
              by_cases c9 : x < x
              · have e9 := decide_eq_true c9
                rw [if_pos c9] at hg1
                simp only [wk, wt, wl, ↓reduceIte, Nat.reduceEqDiff, Nat.reduceAdd, Nat.zero_add, not_false_eq_true, not_true_eq_false, t0, t2, t3, t4, d9, d8, e9, build_fault, conc_fault]
                exact ⟨5, by rw [hM]; unfold setR; rw [hfi]; simp only; rw [hg1], rfl, X4.C⟩
              · have e9 := decide_eq_false c9
                rw [if_neg c9] at hg1
                obtain ⟨v8, h8, h9, q1, q2, q3, X9⟩ := X4.push H hrl (x, x) (by omega) (k := 1) (by simp)
                have q3' : aslice prog h9 22 w (some (.int .i64 1)) none none = some (sliceV w 1 1 _) := q3
                have q1' : aappend prog (h4.new 50 [.int .i64 x, .int .i64 x]) 23 23 sv (.slice (some ⟨h4.size, 0, none⟩) 1 2) = some (v8, h8) := q1
                have LA := V4'.loadA (P := prog) (t := 50) underlying50 rfl asz50
                have LF := X4.V3.load1 (P := prog) (t := 23) underlying23 rfl (i := 2)
                simp only [reC, setC, List.getElem?_cons_succ, List.getElem?_cons_zero] at LF
                simp only [wk, wt, wl, ↓reduceIte, Nat.reduceEqDiff, Nat.reduceAdd, Nat.zero_add, not_false_eq_true, not_true_eq_false, t0, t2, t3, t4, pt, d9, d8, e9, LF, LA, bsSp, q1', q2, q3']
                simp only [List.length_cons, List.length_nil] at hk hn hL
                exact ⟨([y]).length, by (try simp only [List.length_cons, List.length_nil]); omega, _, v8, _, _, m, rfl, X9, rfl, by (try simp only [List.length_cons, List.length_nil]); omega, by (try simp only [List.length_cons, List.length_nil, List.length_append]); omega, hg1, fun y hy => h32 y (List.mem_of_mem_drop (i := 1) hy)⟩
            · have d5 : decide (2 < (((y :: z :: r).length : Nat) : Int) + 1) = true := decide_eq_true (by simp; omega)
              have IY : aindexAddr prog 22 w (.int .i64 1) = _ := (X4.S.ix (i := 1) rfl).1
              have LY := (X4.S.ix (i := 1) rfl).2
              by_cases c6 : y = 45
              · have d6 := decide_eq_true c6
                subst c6
                have hg1 := hg.trans spans_two
                have IZ : aindexAddr prog 22 w (.int .i64 2) = _ := (X4.S.ix (i := 2) rfl).1
                have LZ := (X4.S.ix (i := 2) rfl).2
                have hz := h32 z (by simp)
                have cvz := cv32 hz.1 hz.2
                obtain ⟨h5, e5, V5, C5, z5⟩ := V4'.store1 (P := prog) (t := 3) (v := .int .i64 z) (i := 1) (Ch.wf K4) asz3 (by simp) rfl
                simp only [List.set_cons_succ, List.set_cons_zero] at V5
                have K5 := K4.step C5 fun b e => by omega
                have X5 := X.keeps H K5
                simp only [wk, wt, wl, ↓reduceIte, Nat.reduceEqDiff, Nat.reduceAdd, Nat.zero_add, not_false_eq_true, not_true_eq_false, t0, t2, t3, t4, pt, LN4, d5, IY, LY, d6, IZ, LZ, cvz, e5]
                have d9 := L1 V5
                have d8 := L0 V5
                by_cases c9 : z < x
                · have e9 := decide_eq_true c9
                  rw [if_pos c9] at hg1
                  simp only [wk, wt, wl, ↓reduceIte, Nat.reduceEqDiff, Nat.reduceAdd, Nat.zero_add, not_false_eq_true, not_true_eq_false, t0, t2, t3, t4, d9, d8, e9, build_fault, conc_fault]
                  exact ⟨5, by rw [hM]; unfold setR; rw [hfi]; simp only; rw [hg1], rfl, X5.C⟩
                · have e9 := decide_eq_false c9
                  rw [if_neg c9] at hg1
                  obtain ⟨v8, h8, h9, q1, q2, q3, X9⟩ := X5.push H hrl (x, z) (by omega) (k := 3) (by simp)
                  have q3' : aslice prog h9 22 w (some (.int .i64 3)) none none = some (sliceV w 1 3 _) := q3
                  have q1' : aappend prog (h5.new 50 [.int .i64 x, .int .i64 z]) 23 23 sv (.slice (some ⟨h5.size, 0, none⟩) 1 2) = some (v8, h8) := q1
                  have LA := V5.loadA (P := prog) (t := 50) underlying50 rfl asz50
                  have LF := X5.V3.load1 (P := prog) (t := 23) underlying23 rfl (i := 2)
                  simp only [reC, setC, List.getElem?_cons_succ, List.getElem?_cons_zero] at LF
                  simp only [wk, wt, wl, ↓reduceIte, Nat.reduceEqDiff, Nat.reduceAdd, Nat.zero_add, not_false_eq_true, not_true_eq_false, t0, t2, t3, t4, pt, d9, d8, e9, LF, LA, bsSp, q1', q2, q3']
                  simp only [List.length_cons, List.length_nil] at hk hn hL
                  exact ⟨(r).length, by (try simp only [List.length_cons, List.length_nil]); omega, _, v8, _, _, m, rfl, X9, rfl, by (try simp only [List.length_cons, List.length_nil]); omega, by (try simp only [List.length_cons, List.length_nil, List.length_append]); omega, hg1, fun y hy => h32 y (List.mem_of_mem_drop (i := 3) hy)⟩
              · have d6 := decide_eq_false c6
                have hg1 := hg.trans (spans_one (fun z' u e => by cases e; exact c6 rfl))
                simp only [wk, wt, wl, ↓reduceIte, Nat.reduceEqDiff, Nat.reduceAdd, Nat.zero_add, not_false_eq_true, not_true_eq_false, t0, t2, t3, t4, pt, LN4, d5, IY, LY, d6]
                have d9 := L1 V4'
                have d8 := L0 V4'
                by_cases c9 : x < x
                · have e9 := decide_eq_true c9
                  rw [if_pos c9] at hg1
                  simp only [wk, wt, wl, ↓reduceIte, Nat.reduceEqDiff, Nat.reduceAdd, Nat.zero_add, not_false_eq_true, not_true_eq_false, t0, t2, t3, t4, d9, d8, e9, build_fault, conc_fault]
                  exact ⟨5, by rw [hM]; unfold setR; rw [hfi]; simp only; rw [hg1], rfl, X4.C⟩
                · have e9 := decide_eq_false c9
                  rw [if_neg c9] at hg1
                  obtain ⟨v8, h8, h9, q1, q2, q3, X9⟩ := X4.push H hrl (x, x) (by omega) (k := 1) (by simp)
                  have q3' : aslice prog h9 22 w (some (.int .i64 1)) none none = some (sliceV w 1 1 _) := q3
                  have q1' : aappend prog (h4.new 50 [.int .i64 x, .int .i64 x]) 23 23 sv (.slice (some ⟨h4.size, 0, none⟩) 1 2) = some (v8, h8) := q1
                  have LA := V4'.loadA (P := prog) (t := 50) underlying50 rfl asz50
                  have LF := X4.V3.load1 (P := prog) (t := 23) underlying23 rfl (i := 2)
                  simp only [reC, setC, List.getElem?_cons_succ, List.getElem?_cons_zero] at LF
                  simp only [wk, wt, wl, ↓reduceIte, Nat.reduceEqDiff, Nat.reduceAdd, Nat.zero_add, not_false_eq_true, not_true_eq_false, t0, t2, t3, t4, pt, d9, d8, e9, LF, LA, bsSp, q1', q2, q3']
                  simp only [List.length_cons, List.length_nil] at hk hn hL
                  exact ⟨(y :: z :: r).length, by (try simp only [List.length_cons, List.length_nil]); omega, _, v8, _, _, m, rfl, X9, rfl, by (try simp only [List.length_cons, List.length_nil]); omega, by (try simp only [List.length_cons, List.length_nil, List.length_append]); omega, hg1, fun y hy => h32 y (List.mem_of_mem_drop (i := 1) hy)⟩
        · have nx : ∀ j, 1 ≤ j → j < i + 1 → (a :: l)[j]? ≠ some 93 := fun j h1 h2 => by
            rcases Nat.lt_or_eq_of_le (Nat.lt_succ_iff.1 h2) with e | rfl
            · exact hno j h1 e
            · rw [hy]; intro e; cases e; exact c1 ⟨rfl, by omega⟩
          by_cases c2 : y = 93
          · have d1 := decide_eq_true c2
            have d2 : decide (0 < (i : Int)) = false := decide_eq_false (fun e => c1 ⟨c2, by omega⟩)
            simp only [wk, wt, wl, ↓reduceIte, Nat.reduceEqDiff, Nat.reduceAdd, Nat.zero_add, not_false_eq_true, not_true_eq_false, t0, t2, t3, t4, t5, t28, t29, t30, IX, LX, d1, d2, wi, intOf_int]
            exact ⟨⟨i + 1, rfl, by omega, nx⟩, by omega⟩
          · have d1 := decide_eq_false c2
            simp only [wk, wt, wl, ↓reduceIte, Nat.reduceEqDiff, Nat.reduceAdd, Nat.zero_add, not_false_eq_true, not_true_eq_false, t0, t2, t3, t4, t5, t28, t29, t30, IX, LX, d1, wi, intOf_int]
            exact ⟨⟨i + 1, rfl, by omega, nx⟩, by omega⟩
      · have d3 : decide ((-1 : Int) < 0) = true := rfl
        have hM : setM (a :: l) = setR false (a :: l) := (setM_no (by simp [ca]))
        have hfi : findM ((a :: l).drop 1) = none := find_none fun j e => by
          rw [List.getElem?_drop] at e
          have := (List.getElem?_eq_some_iff.1 e).1
          exact hno _ (by omega) (by omega) e
        simp only [wk, wt, wl, ↓reduceIte, Nat.reduceEqDiff, Nat.reduceAdd, Nat.zero_add, not_false_eq_true, not_true_eq_false, t5, d3, build_fault, conc_fault]
        exact ⟨10, by rw [hM]; unfold setR; rw [hfi], rfl, K3.mono fun _ e => e.elim⟩
end Go.Proofs.Ytnnkcbkenofhmaa.Am
end
section
/- Patterns, the program: contract of repeat, by a walk. -/
set_option linter.unusedSimpArgs false
set_option linter.unusedVariables false
set_option maxHeartbeats 4000000
set_option maxRecDepth 20000
namespace Go.Proofs.Ytnnkcbkenofhmaa.Am
open Go Go.RowKit Go.Proofs.Try
/-- What is left is set. -/
theorem RD.setR {h : Heap} {rb pb : Nat} {l t : List Int} {g o : Int} (R : RD h rb pb l g o) (H : Wf h) {w : Value} (S : RdI prog h .i32 w t) (hw : ∀ b, blkOf w = some b → b = pb) :
    ∃ h1, storeV prog h 22 (.pointer (some ⟨rb, 0, none⟩)) w = some (undef, h1) ∧ RD h1 rb pb t g o ∧ Ch (Bx rb) h h1 ∧ h1.size = h.size := by
  obtain ⟨rv, V, _, hb, e1, e2⟩ := R
  obtain ⟨h1, q1, q2, q3, q4⟩ := V.store1 (P := prog) (t := 22) (v := w) (i := 0) H asz22 (by simp) (Rd.one S)
  simp only [List.set_cons_zero] at q2
  exact ⟨h1, q1, ⟨w, q2, Ch.rd q3 S fun b e f => e1 (by rw [← hw b e]; exact f), hw, e1, by omega⟩, q3, q4⟩
theorem RD.setG {h : Heap} {rb pb : Nat} {l : List Int} {g o : Int} (R : RD h rb pb l g o) (H : Wf h) (g' : Int) :
    ∃ h1, storeV prog h 3 (.pointer (some ⟨rb, 1, none⟩)) (.int .i64 g') = some (undef, h1) ∧ RD h1 rb pb l g' o ∧ Ch (Bx rb) h h1 ∧ h1.size = h.size := by
  obtain ⟨rv, V, S, hb, e1, e2⟩ := R
  obtain ⟨h1, q1, q2, q3, q4⟩ := V.store1 (P := prog) (t := 3) (v := .int .i64 g') (i := 1) H asz3 (by simp) rfl
  simp only [List.set_cons_zero, List.set_cons_succ] at q2
  exact ⟨h1, q1, ⟨rv, q2, Ch.rd q3 S fun b e f => e1 (by rw [← hb b e]; exact f), hb, e1, by omega⟩, q3, q4⟩
theorem RD.setO {h : Heap} {rb pb : Nat} {l : List Int} {g o : Int} (R : RD h rb pb l g o) (H : Wf h) (o' : Int) :
    ∃ h1, storeV prog h 3 (.pointer (some ⟨rb, 2, none⟩)) (.int .i64 o') = some (undef, h1) ∧ RD h1 rb pb l g o' ∧ Ch (Bx rb) h h1 ∧ h1.size = h.size := by
  obtain ⟨rv, V, S, hb, e1, e2⟩ := R
  obtain ⟨h1, q1, q2, q3, q4⟩ := V.store1 (P := prog) (t := 3) (v := .int .i64 o') (i := 2) H asz3 (by simp) rfl
  simp only [List.set_cons_zero, List.set_cons_succ] at q2
  exact ⟨h1, q1, ⟨rv, q2, Ch.rd q3 S fun b e f => e1 (by rw [← hb b e]; exact f), hb, e1, by omega⟩, q3, q4⟩
/-- The first k runes are taken. -/
theorem RD.adv {h : Heap} {rb pb : Nat} {l : List Int} {g o : Int} (R : RD h rb pb l g o) (H : Wf h) {k : Nat} (hk : k ≤ l.length) :
    ∃ rv w h1, aload prog h 22 ⟨rb, 0, none⟩ = some rv ∧ RdI prog h .i32 rv l ∧ (∀ b, blkOf rv = some b → b = pb) ∧ aslice prog h 22 rv (some (.int .i64 (k : Int))) none none = some w ∧ RdI prog h .i32 w (l.drop k) ∧ blkOf w = blkOf rv ∧
      storeV prog h 22 (.pointer (some ⟨rb, 0, none⟩)) w = some (undef, h1) ∧ RD h1 rb pb (l.drop k) g o ∧ Ch (Bx rb) h h1 ∧ h1.size = h.size := by
  have R0 := R
  obtain ⟨rv, V, S, hb, e1, e2⟩ := R
  obtain ⟨q1, q2, q3⟩ := S.lo hk
  obtain ⟨h1, z1, z2, z3, z4⟩ := R0.setR H q2 fun b e => hb b (by rw [← q3]; exact e)
  exact ⟨rv, _, h1, V.ld.1, S, hb, q1, q2, q3, z1, z2, z3, z4⟩
abbrev B2 (rb tb : Nat) : Nat → Prop := fun b => b = rb ∨ b = tb
/-- A part becomes the part of a repetition. -/
theorem star_put {h : Heap} {rb tb pb : Nat} {l : List Int} {g o lo hi : Int} {p : Pat} {c : RC} {D : Nat → Prop} (R : RD h rb pb l g o) (H : Wf h) (V : Var h tb (reC c)) (P : ReR h D p c) (hD : ∀ b, D b → b < h.size) (hDr : D rb) (hDt : D tb) (h1 : tb ≠ rb) (h2 : tb ≠ pb) :
    ∃ h3, storeV prog (h.new 26 (reC c)) 26 (.pointer (some ⟨tb, 0, none⟩)) (reV { rc0 with k := 10, lo := lo, hi := hi, pv := .slice (some ⟨h.size, 0, none⟩) 1 2 }) = some (undef, h3) ∧
      ∃ c', Var h3 tb (reC c') ∧ ReR h3 D (pStar lo hi p) c' ∧ RD h3 rb pb l g o ∧ Ch (B2 rb tb) h h3 := by
  have N := Keeps.new H 26 (reC c)
  have hlt := V.lt H
  have hlt2 := (R.lt H).1
  obtain ⟨h3, e3, V3, C3, z3⟩ := (Keeps.var H N V).put (Ch.wf N) (d := { rc0 with k := 10, lo := lo, hi := hi, pv := .slice (some ⟨h.size, 0, none⟩) 1 2 }) rfl rfl
  have C03 : Ch (B2 rb tb) h h3 := (N.mono (D' := B2 rb tb) fun _ e => e.elim).then C3 fun b e => .inr (.inr e)
  refine ⟨h3, e3, _, V3, ReR.ps (l := [c]) (Ch.rd C3 (Rd.new H asz26 rfl) fun b e f => ?_) (fun b e f => ?_) (RePs.one (ReR.ch C03 (fun b e => by rcases e with rfl | rfl <;> assumption) p c P)), (R.keeps H N).ch (Ch.wf N) C3 (fun e => h1 e.symm) (fun e => h2 e.symm), C03⟩
  · have e2 : h.size = b := by cases e; rfl
    omega
  · have e2 : h.size = b := by cases e; rfl
    have := hD b f
    omega
theorem repeat_ok {h : Heap} {rb tb pb : Nat} {l : List Int} {g o : Int} {p : Pat} {c : RC} {D : Nat → Prop} (R : RD h rb pb l g o) (V : Var h tb (reC c)) (P : ReR h D p c) (hD : ∀ b, D b → b < h.size) (hDr : D rb) (hDt : D tb) (htr : tb ≠ rb) (htp : tb ≠ pb) : ACallsX prog 34 #[pt rb, pt tb] h
    (fun y h' => (repM p l = .ok none ∧ y = .bool false ∧ h' = h) ∨ ∃ q t c', repM p l = .ok (some (q, t)) ∧ y = .bool true ∧ Var h' tb (reC c') ∧ ReR h' D q c' ∧ RD h' rb pb t g o ∧ Ch (B2 rb tb) h h')
    (fun v h' => ∃ e, repM p l = .error e ∧ v = flt e ∧ Ch (B2 rb tb) h h') := by
  refine acallsX_of_W' func34 rfl (by kernel_rfl) (by kernel_rfl) (by simp [ntmps34]) ?_
  intro H
  have KR := Keeps.refl H
  simp only [wk, wt, wl, ↓reduceIte, Nat.reduceEqDiff, Nat.reduceAdd, Nat.zero_add, not_false_eq_true, not_true_eq_false, pt]
  refine (peek_ok R).use_pure ?_
  obtain ⟨rv, RV, S, hb, _, _⟩ := id R
  obtain ⟨L0, _, _⟩ := RV.ld
  rcases l with _ | ⟨x, _ | ⟨y, t⟩⟩
  · have d0 : decide ((0 : Int) = 1) = false := rfl
    have d1 : decide ((0 : Int) < 2) = true := rfl
    simp only [wk, wt, wl, ↓reduceIte, Nat.reduceEqDiff, Nat.reduceAdd, Nat.zero_add, not_false_eq_true, not_true_eq_false, peekV, peekM, d0, d1]
    exact .inl ⟨rfl, trivial⟩
  · have d0 : decide ((1 : Int) = 1) = true := rfl
    have d1 : decide ((1 : Int) < 2) = true := rfl
    by_cases c1 : x = 42
    · have d2 := decide_eq_true c1
      subst c1
      obtain ⟨rv2, w, h1, a1, a2, a3, a4, a5, a6, a7, a8, a9, a10⟩ := R.adv H (k := 1) (by simp)
      rw [L0] at a1; cases a1
      have a4' : aslice prog h 22 rv (some (.int .i64 1)) none none = some w := a4
      have V1 := Ch.var H a9 V htr
      have P1 := ReR.ch a9 (fun b e => by rw [show b = rb from e]; exact hDr) p c P
      have hD1 : ∀ b, D b → b < h1.size := fun b e => by rw [a10]; exact hD b e
      obtain ⟨h5, e5, c', V5, P5, R5, C5⟩ := star_put (lo := 0) (hi := -1) a8 (Ch.wf a9) V1 P1 hD1 hDr hDt htr htp
      have e5' : storeV prog (h1.new 26 (reC c)) 26 (.pointer (some ⟨tb, 0, none⟩)) (reV { rc0 with k := 10, hi := -1, pv := .slice (some ⟨h1.size, 0, none⟩) 1 2 }) = some (undef, h5) := e5
      simp only [wk, wt, wl, ↓reduceIte, Nat.reduceEqDiff, Nat.reduceAdd, Nat.zero_add, not_false_eq_true, not_true_eq_false, peekV, peekM, d0, d2, L0, a4', a7, V1.re, bsRe (h := h1) P.one1.1 P.one1.2, build_rehp (one_slice), e5']
      exact .inr ⟨_, _, c', rfl, V5, P5, R5, (a9.mono fun b e => .inl e).then C5 fun b e => .inr e⟩
    · have d2 := decide_eq_false c1
      simp only [wk, wt, wl, ↓reduceIte, Nat.reduceEqDiff, Nat.reduceAdd, Nat.zero_add, not_false_eq_true, not_true_eq_false, peekV, peekM, d0, d2, d1]
      exact .inl ⟨by simp [repM, peekM, c1], trivial⟩
  · by_cases c0 : x = 92
    · subst c0
      have pk : peekV (92 :: y :: t) = .tuple #[.int .i32 92, .int .i32 y, .int .i64 2] := rfl
      have d0 : decide ((2 : Int) = 1) = false := rfl
      have d1 : decide ((2 : Int) < 2) = false := rfl
      by_cases c1 : y = 123
      · have d2 : decide (¬ y = 123) = false := by simp [c1]
        subst c1
        have SL : aslice prog h 22 rv (some (.int .i64 2)) none none = some _ := (S.lo (k := 2) (by simp)).1
        have S2 : RdI prog h .i32 (sliceV rv 1 2 (92 :: 123 :: t).length) t := (S.lo (k := 2) (by simp)).2.1
        have B2 : blkOf (sliceV rv 1 2 (92 :: 123 :: t).length) = blkOf rv := (S.lo (k := 2) (by simp)).2.2
        simp only [wk, wt, wl, ↓reduceIte, Nat.reduceEqDiff, Nat.reduceAdd, Nat.zero_add, not_false_eq_true, not_true_eq_false, pk, d0, d1, d2, L0, SL]
        refine (digits_ok S2).use ?_
        rintro _ _ ⟨w, rfl, Sw, hw, hh⟩
        obtain rfl := hh.symm
        have hwb : ∀ b, blkOf w = some b → b = pb := fun b e => hb b (by rw [← B2, ← hw]; exact e)
        obtain ⟨lo, r1, ok1, hd1⟩ : ∃ lo r1 ok1, digM 0 false t = (lo, r1, ok1) := ⟨_, _, _, rfl⟩
        rw [hd1] at Sw
        simp only at Sw
        rw [hd1]
        cases ok1 with
        | false =>
          simp only [wk, wt, wl, ↓reduceIte, Nat.reduceEqDiff, Nat.reduceAdd, Nat.zero_add, not_false_eq_true, not_true_eq_false, pt, build_fault, conc_fault]
          exact ⟨11, by simp [repM, peekM, timesM, hd1], rfl, KR.mono fun _ e => e.elim⟩
        | true =>
          have hT0 : timesM t = (if 100 < kmax lo (hiM lo r1).1 ∨ (0 ≤ (hiM lo r1).1 ∧ (hiM lo r1).1 < lo) then .error 11 else endM lo (hiM lo r1).1 (hiM lo r1).2) := by
            unfold timesM
            rw [hd1]
            simp only [Bool.true_eq_false, if_false]
          rcases r1 with _ | ⟨z, r1⟩
          · have LW := Sw.ln (n := 0) rfl
            have d3 : decide ((0 : Int) < 0) = false := rfl
            simp only [wk, wt, wl, ↓reduceIte, Nat.reduceEqDiff, Nat.reduceAdd, Nat.zero_add, not_false_eq_true, not_true_eq_false, pt, LW, d3]
            have hgT : timesM t = (if 100 < kmax lo lo ∨ (0 ≤ lo ∧ lo < lo) then .error 11 else endM lo lo ([] : List Int)) := hT0
            have rmT : repM p (92 :: 123 :: t) = (match timesM t with | .error e => .error e | .ok (lo, hi, t) => .ok (some (pStar lo hi p, t))) := rfl
            by_cases c5 : 100 < kmax lo lo
            · have d5 := decide_eq_true c5
              simp only [wk, wt, wl, ↓reduceIte, Nat.reduceEqDiff, Nat.reduceAdd, Nat.zero_add, not_false_eq_true, not_true_eq_false, pt, mxV, d5, build_fault, conc_fault]
              exact ⟨11, by rw [rmT, hgT, if_pos (.inl c5)], rfl, KR.mono fun _ e => e.elim⟩
            · have d5 := decide_eq_false c5
              by_cases c6 : 0 ≤ lo ∧ lo < lo
              · have d6 := decide_eq_true c6.1
                have d7 := decide_eq_true c6.2
                simp only [wk, wt, wl, ↓reduceIte, Nat.reduceEqDiff, Nat.reduceAdd, Nat.zero_add, not_false_eq_true, not_true_eq_false, pt, mxV, d5, d6, d7, build_fault, conc_fault]
                exact ⟨11, by rw [rmT, hgT, if_pos (.inr c6)], rfl, KR.mono fun _ e => e.elim⟩
              · rw [if_neg (fun e => e.elim c5 c6)] at hgT
                have hcond : ∀ {A : Prop}, ((0 ≤ lo → decide (lo < lo) = false → A) ∧ (¬ 0 ≤ lo → A)) → A := fun {A} q => by
                  by_cases e : 0 ≤ lo
                  · exact q.1 e (decide_eq_false fun f => c6 ⟨e, f⟩)
                  · exact q.2 e
                refine hcond ⟨fun c7 d7 => ?_, fun c7 => ?_⟩
                · have d6 := decide_eq_true c7
                  generalize hrr : ([] : List Int) = rr at hgT
                  have SW : RdI prog h .i32 w rr := by rw [← hrr]; exact Sw
                  rcases rr with _ | ⟨x1, _ | ⟨x2, r2⟩⟩
                  · have LW := SW.ln (n := 0) rfl
                    have d8 : decide ((0 : Int) < 2) = true := rfl
                    simp only [wk, wt, wl, ↓reduceIte, Nat.reduceEqDiff, Nat.reduceAdd, Nat.zero_add, not_false_eq_true, not_true_eq_false, pt, mxV, d5, d6, d7, LW, d8, build_fault, conc_fault]
                    exact ⟨10, by rw [rmT, hgT]; simp [endM], rfl, KR.mono fun _ e => e.elim⟩
                  · have LW := SW.ln (n := 1) rfl
                    have d8 : decide ((1 : Int) < 2) = true := rfl
                    simp only [wk, wt, wl, ↓reduceIte, Nat.reduceEqDiff, Nat.reduceAdd, Nat.zero_add, not_false_eq_true, not_true_eq_false, pt, mxV, d5, d6, d7, LW, d8, build_fault, conc_fault]
                    exact ⟨10, by rw [rmT, hgT]; simp [endM], rfl, KR.mono fun _ e => e.elim⟩
                  · have LW := SW.ln (n := (r2.length : Int) + 2) (by simp; omega)
                    have d8 : decide ((r2.length : Int) + 2 < 2) = false := decide_eq_false (by omega)
                    have I1 : aindexAddr prog 22 w (.int .i64 0) = _ := (SW.ix (i := 0) rfl).1
                    have L1 := (SW.ix (i := 0) rfl).2
                    have I2 : aindexAddr prog 22 w (.int .i64 1) = _ := (SW.ix (i := 1) rfl).1
                    have L2 := (SW.ix (i := 1) rfl).2
                    by_cases c8 : x1 = 92
                    · have d9 : decide (¬ x1 = 92) = false := by simp [c8]
                      by_cases c9 : x2 = 125
                      · have d10 : decide (¬ x2 = 125) = false := by simp [c9]
                        subst c8 c9
                        have SL : aslice prog h 22 w (some (.int .i64 2)) none none = some _ := (SW.lo (k := 2) (by simp)).1
                        have S2 := (SW.lo (k := 2) (by simp)).2
                        obtain ⟨h4, e4, R4, C4, z4⟩ := R.setR H S2.1 (fun b e => hwb b (by rw [← S2.2]; exact e))
                        have V4 := Ch.var H C4 V htr
                        have P4 := ReR.ch C4 (fun b e => by rw [show b = rb from e]; exact hDr) p c P
                        have hD4 : ∀ b, D b → b < h4.size := fun b e => by rw [z4]; exact hD b e
                        obtain ⟨h5, e5, c', V5, P5, R5, C5⟩ := star_put (lo := lo) (hi := lo) R4 (Ch.wf C4) V4 P4 hD4 hDr hDt htr htp
                        simp only [wk, wt, wl, ↓reduceIte, Nat.reduceEqDiff, Nat.reduceAdd, Nat.zero_add, not_false_eq_true, not_true_eq_false, pt, mxV, d5, d6, d7, LW, d8, I1, L1, I2, L2, d9, d10, SL, e4, V4.re, bsRe (h := h4) P.one1.1 P.one1.2, build_relhp (one_slice), e5]
                        exact .inr ⟨_, _, c', by rw [rmT, hgT]; rfl, V5, P5, R5, (C4.mono fun b e => .inl e).then C5 fun b e => .inr e⟩
                      · have d10 : decide (¬ x2 = 125) = true := by simp [c9]
                        simp only [wk, wt, wl, ↓reduceIte, Nat.reduceEqDiff, Nat.reduceAdd, Nat.zero_add, not_false_eq_true, not_true_eq_false, pt, mxV, d5, d6, d7, LW, d8, I1, L1, I2, L2, d9, d10, build_fault, conc_fault]
                        exact ⟨10, by rw [rmT, hgT]; simp [endM, c9], rfl, KR.mono fun _ e => e.elim⟩
                    · have d9 : decide (¬ x1 = 92) = true := by simp [c8]
                      simp only [wk, wt, wl, ↓reduceIte, Nat.reduceEqDiff, Nat.reduceAdd, Nat.zero_add, not_false_eq_true, not_true_eq_false, pt, mxV, d5, d6, d7, LW, d8, I1, L1, d9, build_fault, conc_fault]
                      exact ⟨10, by rw [rmT, hgT]; simp [endM, c8], rfl, KR.mono fun _ e => e.elim⟩
                · have d6 := decide_eq_false c7
                  generalize hrr : ([] : List Int) = rr at hgT
                  have SW : RdI prog h .i32 w rr := by rw [← hrr]; exact Sw
                  rcases rr with _ | ⟨x1, _ | ⟨x2, r2⟩⟩
                  · have LW := SW.ln (n := 0) rfl
                    have d8 : decide ((0 : Int) < 2) = true := rfl
                    simp only [wk, wt, wl, ↓reduceIte, Nat.reduceEqDiff, Nat.reduceAdd, Nat.zero_add, not_false_eq_true, not_true_eq_false, pt, mxV, d5, d6, LW, d8, build_fault, conc_fault]
                    exact ⟨10, by rw [rmT, hgT]; simp [endM], rfl, KR.mono fun _ e => e.elim⟩
                  · have LW := SW.ln (n := 1) rfl
                    have d8 : decide ((1 : Int) < 2) = true := rfl
                    simp only [wk, wt, wl, ↓reduceIte, Nat.reduceEqDiff, Nat.reduceAdd, Nat.zero_add, not_false_eq_true, not_true_eq_false, pt, mxV, d5, d6, LW, d8, build_fault, conc_fault]
                    exact ⟨10, by rw [rmT, hgT]; simp [endM], rfl, KR.mono fun _ e => e.elim⟩
                  · have LW := SW.ln (n := (r2.length : Int) + 2) (by simp; omega)
                    have d8 : decide ((r2.length : Int) + 2 < 2) = false := decide_eq_false (by omega)
                    have I1 : aindexAddr prog 22 w (.int .i64 0) = _ := (SW.ix (i := 0) rfl).1
                    have L1 := (SW.ix (i := 0) rfl).2
                    have I2 : aindexAddr prog 22 w (.int .i64 1) = _ := (SW.ix (i := 1) rfl).1
                    have L2 := (SW.ix (i := 1) rfl).2
                    by_cases c8 : x1 = 92
                    · have d9 : decide (¬ x1 = 92) = false := by simp [c8]
                      by_cases c9 : x2 = 125
                      · have d10 : decide (¬ x2 = 125) = false := by simp [c9]
                        subst c8 c9
                        have SL : aslice prog h 22 w (some (.int .i64 2)) none none = some _ := (SW.lo (k := 2) (by simp)).1
                        have S2 := (SW.lo (k := 2) (by simp)).2
                        obtain ⟨h4, e4, R4, C4, z4⟩ := R.setR H S2.1 (fun b e => hwb b (by rw [← S2.2]; exact e))
                        have V4 := Ch.var H C4 V htr
                        have P4 := ReR.ch C4 (fun b e => by rw [show b = rb from e]; exact hDr) p c P
                        have hD4 : ∀ b, D b → b < h4.size := fun b e => by rw [z4]; exact hD b e
                        obtain ⟨h5, e5, c', V5, P5, R5, C5⟩ := star_put (lo := lo) (hi := lo) R4 (Ch.wf C4) V4 P4 hD4 hDr hDt htr htp
                        simp only [wk, wt, wl, ↓reduceIte, Nat.reduceEqDiff, Nat.reduceAdd, Nat.zero_add, not_false_eq_true, not_true_eq_false, pt, mxV, d5, d6, LW, d8, I1, L1, I2, L2, d9, d10, SL, e4, V4.re, bsRe (h := h4) P.one1.1 P.one1.2, build_relhp (one_slice), e5]
                        exact .inr ⟨_, _, c', by rw [rmT, hgT]; rfl, V5, P5, R5, (C4.mono fun b e => .inl e).then C5 fun b e => .inr e⟩
                      · have d10 : decide (¬ x2 = 125) = true := by simp [c9]
                        simp only [wk, wt, wl, ↓reduceIte, Nat.reduceEqDiff, Nat.reduceAdd, Nat.zero_add, not_false_eq_true, not_true_eq_false, pt, mxV, d5, d6, LW, d8, I1, L1, I2, L2, d9, d10, build_fault, conc_fault]
                        exact ⟨10, by rw [rmT, hgT]; simp [endM, c9], rfl, KR.mono fun _ e => e.elim⟩
                    · have d9 : decide (¬ x1 = 92) = true := by simp [c8]
                      simp only [wk, wt, wl, ↓reduceIte, Nat.reduceEqDiff, Nat.reduceAdd, Nat.zero_add, not_false_eq_true, not_true_eq_false, pt, mxV, d5, d6, LW, d8, I1, L1, d9, build_fault, conc_fault]
                      exact ⟨10, by rw [rmT, hgT]; simp [endM, c8], rfl, KR.mono fun _ e => e.elim⟩
          · have LW := Sw.ln (n := (r1.length : Int) + 1) (by simp)
            have d3 : decide (0 < (r1.length : Int) + 1) = true := decide_eq_true (by omega)
            have IZ : aindexAddr prog 22 w (.int .i64 0) = _ := (Sw.ix (i := 0) rfl).1
            have LZ := (Sw.ix (i := 0) rfl).2
            by_cases c3 : z = 44
            · have d4 := decide_eq_true c3
              subst c3
              have SL2 : aslice prog h 22 w (some (.int .i64 1)) none none = some _ := (Sw.lo (k := 1) (by simp)).1
              have S3 : RdI prog h .i32 (sliceV w 1 1 (44 :: r1).length) r1 := (Sw.lo (k := 1) (by simp)).2.1
              have B3 : blkOf (sliceV w 1 1 (44 :: r1).length) = blkOf w := (Sw.lo (k := 1) (by simp)).2.2
              simp only [wk, wt, wl, ↓reduceIte, Nat.reduceEqDiff, Nat.reduceAdd, Nat.zero_add, not_false_eq_true, not_true_eq_false, pt, LW, d3, IZ, LZ, d4, SL2]
              refine (digits_ok S3).use ?_
              rintro _ _ ⟨w3, rfl, Sw3, hw3, hh⟩
              obtain rfl := hh.symm
              have hwb3 : ∀ b, blkOf w3 = some b → b = pb := fun b e => hwb b (by rw [← B3, ← hw3]; exact e)
              have hh1 : hiM lo (44 :: r1) = (if (digM 0 false r1).2.2 = true then (digM 0 false r1).1 else -1, (digM 0 false r1).2.1) := rfl
              obtain ⟨hi, r3, ok3, hd3⟩ : ∃ hi r3 ok3, digM 0 false r1 = (hi, r3, ok3) := ⟨_, _, _, rfl⟩
              rw [hd3] at Sw3 hh1
              simp only at Sw3 hh1
              rw [hd3]
              cases ok3 with
              | false =>
                simp only [Bool.false_eq_true, if_false] at hh1
                rw [hh1] at hT0
                simp only [wk, wt, wl, ↓reduceIte, Nat.reduceEqDiff, Nat.reduceAdd, Nat.zero_add, not_false_eq_true, not_true_eq_false, pt]
                have hgT : timesM t = (if 100 < kmax lo (-1) ∨ (0 ≤ (-1) ∧ (-1) < lo) then .error 11 else endM lo (-1) r3) := hT0
                have rmT : repM p (92 :: 123 :: t) = (match timesM t with | .error e => .error e | .ok (lo, hi, t) => .ok (some (pStar lo hi p, t))) := rfl
                by_cases c5 : 100 < kmax lo (-1)
                · have d5 := decide_eq_true c5
                  simp only [wk, wt, wl, ↓reduceIte, Nat.reduceEqDiff, Nat.reduceAdd, Nat.zero_add, not_false_eq_true, not_true_eq_false, pt, mxV, d5, build_fault, conc_fault]
                  exact ⟨11, by rw [rmT, hgT, if_pos (.inl c5)], rfl, KR.mono fun _ e => e.elim⟩
                · have d5 := decide_eq_false c5
                  by_cases c6 : 0 ≤ (-1) ∧ (-1) < lo
                  · have d6 := decide_eq_true c6.1
                    have d7 := decide_eq_true c6.2
                    simp only [wk, wt, wl, ↓reduceIte, Nat.reduceEqDiff, Nat.reduceAdd, Nat.zero_add, not_false_eq_true, not_true_eq_false, pt, mxV, d5, d6, d7, build_fault, conc_fault]
                    exact ⟨11, by rw [rmT, hgT, if_pos (.inr c6)], rfl, KR.mono fun _ e => e.elim⟩
                  · rw [if_neg (fun e => e.elim c5 c6)] at hgT
                    have hcond : ∀ {A : Prop}, ((0 ≤ (-1) → decide ((-1) < lo) = false → A) ∧ (¬ 0 ≤ (-1) → A)) → A := fun {A} q => by
                      by_cases e : 0 ≤ (-1)
                      · exact q.1 e (decide_eq_false fun f => c6 ⟨e, f⟩)
                      · exact q.2 e
                    refine hcond ⟨fun c7 d7 => ?_, fun c7 => ?_⟩
                    · have d6 := decide_eq_true c7
                      generalize hrr : r3 = rr at hgT
                      have SW : RdI prog h .i32 w3 rr := by rw [← hrr]; exact Sw3
                      rcases rr with _ | ⟨x1, _ | ⟨x2, r2⟩⟩
                      · have LW := SW.ln (n := 0) rfl
                        have d8 : decide ((0 : Int) < 2) = true := rfl
                        simp only [wk, wt, wl, ↓reduceIte, Nat.reduceEqDiff, Nat.reduceAdd, Nat.zero_add, not_false_eq_true, not_true_eq_false, pt, mxV, d5, d6, d7, LW, d8, build_fault, conc_fault]
                        exact ⟨10, by rw [rmT, hgT]; simp [endM], rfl, KR.mono fun _ e => e.elim⟩
                      · have LW := SW.ln (n := 1) rfl
                        have d8 : decide ((1 : Int) < 2) = true := rfl
                        simp only [wk, wt, wl, ↓reduceIte, Nat.reduceEqDiff, Nat.reduceAdd, Nat.zero_add, not_false_eq_true, not_true_eq_false, pt, mxV, d5, d6, d7, LW, d8, build_fault, conc_fault]
                        exact ⟨10, by rw [rmT, hgT]; simp [endM], rfl, KR.mono fun _ e => e.elim⟩
                      · have LW := SW.ln (n := (r2.length : Int) + 2) (by simp; omega)
                        have d8 : decide ((r2.length : Int) + 2 < 2) = false := decide_eq_false (by omega)
                        have I1 : aindexAddr prog 22 w3 (.int .i64 0) = _ := (SW.ix (i := 0) rfl).1
                        have L1 := (SW.ix (i := 0) rfl).2
                        have I2 : aindexAddr prog 22 w3 (.int .i64 1) = _ := (SW.ix (i := 1) rfl).1
                        have L2 := (SW.ix (i := 1) rfl).2
                        by_cases c8 : x1 = 92
                        · have d9 : decide (¬ x1 = 92) = false := by simp [c8]
                          by_cases c9 : x2 = 125
                          · have d10 : decide (¬ x2 = 125) = false := by simp [c9]
                            subst c8 c9
                            have SL : aslice prog h 22 w3 (some (.int .i64 2)) none none = some _ := (SW.lo (k := 2) (by simp)).1
                            have S2 := (SW.lo (k := 2) (by simp)).2
                            obtain ⟨h4, e4, R4, C4, z4⟩ := R.setR H S2.1 (fun b e => hwb3 b (by rw [← S2.2]; exact e))
                            have V4 := Ch.var H C4 V htr
                            have P4 := ReR.ch C4 (fun b e => by rw [show b = rb from e]; exact hDr) p c P
                            have hD4 : ∀ b, D b → b < h4.size := fun b e => by rw [z4]; exact hD b e
                            obtain ⟨h5, e5, c', V5, P5, R5, C5⟩ := star_put (lo := lo) (hi := (-1)) R4 (Ch.wf C4) V4 P4 hD4 hDr hDt htr htp
                            simp only [wk, wt, wl, ↓reduceIte, Nat.reduceEqDiff, Nat.reduceAdd, Nat.zero_add, not_false_eq_true, not_true_eq_false, pt, mxV, d5, d6, d7, LW, d8, I1, L1, I2, L2, d9, d10, SL, e4, V4.re, bsRe (h := h4) P.one1.1 P.one1.2, build_relhp (one_slice), e5]
                            exact .inr ⟨_, _, c', by rw [rmT, hgT]; rfl, V5, P5, R5, (C4.mono fun b e => .inl e).then C5 fun b e => .inr e⟩
                          · have d10 : decide (¬ x2 = 125) = true := by simp [c9]
                            simp only [wk, wt, wl, ↓reduceIte, Nat.reduceEqDiff, Nat.reduceAdd, Nat.zero_add, not_false_eq_true, not_true_eq_false, pt, mxV, d5, d6, d7, LW, d8, I1, L1, I2, L2, d9, d10, build_fault, conc_fault]
                            exact ⟨10, by rw [rmT, hgT]; simp [endM, c9], rfl, KR.mono fun _ e => e.elim⟩
                        · have d9 : decide (¬ x1 = 92) = true := by simp [c8]
                          simp only [wk, wt, wl, ↓reduceIte, Nat.reduceEqDiff, Nat.reduceAdd, Nat.zero_add, not_false_eq_true, not_true_eq_false, pt, mxV, d5, d6, d7, LW, d8, I1, L1, d9, build_fault, conc_fault]
                          exact ⟨10, by rw [rmT, hgT]; simp [endM, c8], rfl, KR.mono fun _ e => e.elim⟩
                    · have d6 := decide_eq_false c7
                      generalize hrr : r3 = rr at hgT
                      have SW : RdI prog h .i32 w3 rr := by rw [← hrr]; exact Sw3
                      rcases rr with _ | ⟨x1, _ | ⟨x2, r2⟩⟩
                      · have LW := SW.ln (n := 0) rfl
                        have d8 : decide ((0 : Int) < 2) = true := rfl
                        simp only [wk, wt, wl, ↓reduceIte, Nat.reduceEqDiff, Nat.reduceAdd, Nat.zero_add, not_false_eq_true, not_true_eq_false, pt, mxV, d5, d6, LW, d8, build_fault, conc_fault]
                        exact ⟨10, by rw [rmT, hgT]; simp [endM], rfl, KR.mono fun _ e => e.elim⟩
                      · have LW := SW.ln (n := 1) rfl
                        have d8 : decide ((1 : Int) < 2) = true := rfl
                        simp only [wk, wt, wl, ↓reduceIte, Nat.reduceEqDiff, Nat.reduceAdd, Nat.zero_add, not_false_eq_true, not_true_eq_false, pt, mxV, d5, d6, LW, d8, build_fault, conc_fault]
                        exact ⟨10, by rw [rmT, hgT]; simp [endM], rfl, KR.mono fun _ e => e.elim⟩
                      · have LW := SW.ln (n := (r2.length : Int) + 2) (by simp; omega)
                        have d8 : decide ((r2.length : Int) + 2 < 2) = false := decide_eq_false (by omega)
                        have I1 : aindexAddr prog 22 w3 (.int .i64 0) = _ := (SW.ix (i := 0) rfl).1
                        have L1 := (SW.ix (i := 0) rfl).2
                        have I2 : aindexAddr prog 22 w3 (.int .i64 1) = _ := (SW.ix (i := 1) rfl).1
                        have L2 := (SW.ix (i := 1) rfl).2
                        by_cases c8 : x1 = 92
                        · have d9 : decide (¬ x1 = 92) = false := by simp [c8]
                          by_cases c9 : x2 = 125
                          · have d10 : decide (¬ x2 = 125) = false := by simp [c9]
                            subst c8 c9
                            have SL : aslice prog h 22 w3 (some (.int .i64 2)) none none = some _ := (SW.lo (k := 2) (by simp)).1
                            have S2 := (SW.lo (k := 2) (by simp)).2
                            obtain ⟨h4, e4, R4, C4, z4⟩ := R.setR H S2.1 (fun b e => hwb3 b (by rw [← S2.2]; exact e))
                            have V4 := Ch.var H C4 V htr
                            have P4 := ReR.ch C4 (fun b e => by rw [show b = rb from e]; exact hDr) p c P
                            have hD4 : ∀ b, D b → b < h4.size := fun b e => by rw [z4]; exact hD b e
                            obtain ⟨h5, e5, c', V5, P5, R5, C5⟩ := star_put (lo := lo) (hi := (-1)) R4 (Ch.wf C4) V4 P4 hD4 hDr hDt htr htp
                            simp only [wk, wt, wl, ↓reduceIte, Nat.reduceEqDiff, Nat.reduceAdd, Nat.zero_add, not_false_eq_true, not_true_eq_false, pt, mxV, d5, d6, LW, d8, I1, L1, I2, L2, d9, d10, SL, e4, V4.re, bsRe (h := h4) P.one1.1 P.one1.2, build_relhp (one_slice), e5]
                            exact .inr ⟨_, _, c', by rw [rmT, hgT]; rfl, V5, P5, R5, (C4.mono fun b e => .inl e).then C5 fun b e => .inr e⟩
                          · have d10 : decide (¬ x2 = 125) = true := by simp [c9]
                            simp only [wk, wt, wl, ↓reduceIte, Nat.reduceEqDiff, Nat.reduceAdd, Nat.zero_add, not_false_eq_true, not_true_eq_false, pt, mxV, d5, d6, LW, d8, I1, L1, I2, L2, d9, d10, build_fault, conc_fault]
                            exact ⟨10, by rw [rmT, hgT]; simp [endM, c9], rfl, KR.mono fun _ e => e.elim⟩
                        · have d9 : decide (¬ x1 = 92) = true := by simp [c8]
                          simp only [wk, wt, wl, ↓reduceIte, Nat.reduceEqDiff, Nat.reduceAdd, Nat.zero_add, not_false_eq_true, not_true_eq_false, pt, mxV, d5, d6, LW, d8, I1, L1, d9, build_fault, conc_fault]
                          exact ⟨10, by rw [rmT, hgT]; simp [endM, c8], rfl, KR.mono fun _ e => e.elim⟩
              | true =>
                simp only [if_true] at hh1
                rw [hh1] at hT0
                simp only [wk, wt, wl, ↓reduceIte, Nat.reduceEqDiff, Nat.reduceAdd, Nat.zero_add, not_false_eq_true, not_true_eq_false, pt]
                have hgT : timesM t = (if 100 < kmax lo hi ∨ (0 ≤ hi ∧ hi < lo) then .error 11 else endM lo hi r3) := hT0
                have rmT : repM p (92 :: 123 :: t) = (match timesM t with | .error e => .error e | .ok (lo, hi, t) => .ok (some (pStar lo hi p, t))) := rfl
                by_cases c5 : 100 < kmax lo hi
                · have d5 := decide_eq_true c5
                  simp only [wk, wt, wl, ↓reduceIte, Nat.reduceEqDiff, Nat.reduceAdd, Nat.zero_add, not_false_eq_true, not_true_eq_false, pt, mxV, d5, build_fault, conc_fault]
                  exact ⟨11, by rw [rmT, hgT, if_pos (.inl c5)], rfl, KR.mono fun _ e => e.elim⟩
                · have d5 := decide_eq_false c5
                  by_cases c6 : 0 ≤ hi ∧ hi < lo
                  · have d6 := decide_eq_true c6.1
                    have d7 := decide_eq_true c6.2
                    simp only [wk, wt, wl, ↓reduceIte, Nat.reduceEqDiff, Nat.reduceAdd, Nat.zero_add, not_false_eq_true, not_true_eq_false, pt, mxV, d5, d6, d7, build_fault, conc_fault]
                    exact ⟨11, by rw [rmT, hgT, if_pos (.inr c6)], rfl, KR.mono fun _ e => e.elim⟩
                  · rw [if_neg (fun e => e.elim c5 c6)] at hgT
                    have hcond : ∀ {A : Prop}, ((0 ≤ hi → decide (hi < lo) = false → A) ∧ (¬ 0 ≤ hi → A)) → A := fun {A} q => by
                      by_cases e : 0 ≤ hi
                      · exact q.1 e (decide_eq_false fun f => c6 ⟨e, f⟩)
                      · exact q.2 e
                    refine hcond ⟨fun c7 d7 => ?_, fun c7 => ?_⟩
                    · have d6 := decide_eq_true c7
                      generalize hrr : r3 = rr at hgT
                      have SW : RdI prog h .i32 w3 rr := by rw [← hrr]; exact Sw3
                      rcases rr with _ | ⟨x1, _ | ⟨x2, r2⟩⟩
                      · have LW := SW.ln (n := 0) rfl
                        have d8 : decide ((0 : Int) < 2) = true := rfl
                        simp only [wk, wt, wl, ↓reduceIte, Nat.reduceEqDiff, Nat.reduceAdd, Nat.zero_add, not_false_eq_true, not_true_eq_false, pt, mxV, d5, d6, d7, LW, d8, build_fault, conc_fault]
                        exact ⟨10, by rw [rmT, hgT]; simp [endM], rfl, KR.mono fun _ e => e.elim⟩
                      · have LW := SW.ln (n := 1) rfl
                        have d8 : decide ((1 : Int) < 2) = true := rfl
                        simp only [wk, wt, wl, ↓reduceIte, Nat.reduceEqDiff, Nat.reduceAdd, Nat.zero_add, not_false_eq_true, not_true_eq_false, pt, mxV, d5, d6, d7, LW, d8, build_fault, conc_fault]
                        exact ⟨10, by rw [rmT, hgT]; simp [endM], rfl, KR.mono fun _ e => e.elim⟩
                      · have LW := SW.ln (n := (r2.length : Int) + 2) (by simp; omega)
                        have d8 : decide ((r2.length : Int) + 2 < 2) = false := decide_eq_false (by omega)
                        have I1 : aindexAddr prog 22 w3 (.int .i64 0) = _ := (SW.ix (i := 0) rfl).1
                        have L1 := (SW.ix (i := 0) rfl).2
                        have I2 : aindexAddr prog 22 w3 (.int .i64 1) = _ := (SW.ix (i := 1) rfl).1
                        have L2 := (SW.ix (i := 1) rfl).2
                        by_cases c8 : x1 = 92
                        · have d9 : decide (¬ x1 = 92) = false := by simp [c8]
                          by_cases c9 : x2 = 125
                          · have d10 : decide (¬ x2 = 125) = false := by simp [c9]
                            subst c8 c9
                            have SL : aslice prog h 22 w3 (some (.int .i64 2)) none none = some _ := (SW.lo (k := 2) (by simp)).1
                            have S2 := (SW.lo (k := 2) (by simp)).2
                            obtain ⟨h4, e4, R4, C4, z4⟩ := R.setR H S2.1 (fun b e => hwb3 b (by rw [← S2.2]; exact e))
                            have V4 := Ch.var H C4 V htr
                            have P4 := ReR.ch C4 (fun b e => by rw [show b = rb from e]; exact hDr) p c P
                            have hD4 : ∀ b, D b → b < h4.size := fun b e => by rw [z4]; exact hD b e
                            obtain ⟨h5, e5, c', V5, P5, R5, C5⟩ := star_put (lo := lo) (hi := hi) R4 (Ch.wf C4) V4 P4 hD4 hDr hDt htr htp
                            simp only [wk, wt, wl, ↓reduceIte, Nat.reduceEqDiff, Nat.reduceAdd, Nat.zero_add, not_false_eq_true, not_true_eq_false, pt, mxV, d5, d6, d7, LW, d8, I1, L1, I2, L2, d9, d10, SL, e4, V4.re, bsRe (h := h4) P.one1.1 P.one1.2, build_relhp (one_slice), e5]
                            exact .inr ⟨_, _, c', by rw [rmT, hgT]; rfl, V5, P5, R5, (C4.mono fun b e => .inl e).then C5 fun b e => .inr e⟩
                          · have d10 : decide (¬ x2 = 125) = true := by simp [c9]
                            simp only [wk, wt, wl, ↓reduceIte, Nat.reduceEqDiff, Nat.reduceAdd, Nat.zero_add, not_false_eq_true, not_true_eq_false, pt, mxV, d5, d6, d7, LW, d8, I1, L1, I2, L2, d9, d10, build_fault, conc_fault]
                            exact ⟨10, by rw [rmT, hgT]; simp [endM, c9], rfl, KR.mono fun _ e => e.elim⟩
                        · have d9 : decide (¬ x1 = 92) = true := by simp [c8]
                          simp only [wk, wt, wl, ↓reduceIte, Nat.reduceEqDiff, Nat.reduceAdd, Nat.zero_add, not_false_eq_true, not_true_eq_false, pt, mxV, d5, d6, d7, LW, d8, I1, L1, d9, build_fault, conc_fault]
                          exact ⟨10, by rw [rmT, hgT]; simp [endM, c8], rfl, KR.mono fun _ e => e.elim⟩
                    · have d6 := decide_eq_false c7
                      generalize hrr : r3 = rr at hgT
                      have SW : RdI prog h .i32 w3 rr := by rw [← hrr]; exact Sw3
                      rcases rr with _ | ⟨x1, _ | ⟨x2, r2⟩⟩
                      · have LW := SW.ln (n := 0) rfl
                        have d8 : decide ((0 : Int) < 2) = true := rfl
                        simp only [wk, wt, wl, ↓reduceIte, Nat.reduceEqDiff, Nat.reduceAdd, Nat.zero_add, not_false_eq_true, not_true_eq_false, pt, mxV, d5, d6, LW, d8, build_fault, conc_fault]
                        exact ⟨10, by rw [rmT, hgT]; simp [endM], rfl, KR.mono fun _ e => e.elim⟩
                      · have LW := SW.ln (n := 1) rfl
                        have d8 : decide ((1 : Int) < 2) = true := rfl
                        simp only [wk, wt, wl, ↓reduceIte, Nat.reduceEqDiff, Nat.reduceAdd, Nat.zero_add, not_false_eq_true, not_true_eq_false, pt, mxV, d5, d6, LW, d8, build_fault, conc_fault]
                        exact ⟨10, by rw [rmT, hgT]; simp [endM], rfl, KR.mono fun _ e => e.elim⟩
                      · have LW := SW.ln (n := (r2.length : Int) + 2) (by simp; omega)
                        have d8 : decide ((r2.length : Int) + 2 < 2) = false := decide_eq_false (by omega)
                        have I1 : aindexAddr prog 22 w3 (.int .i64 0) = _ := (SW.ix (i := 0) rfl).1
                        have L1 := (SW.ix (i := 0) rfl).2
                        have I2 : aindexAddr prog 22 w3 (.int .i64 1) = _ := (SW.ix (i := 1) rfl).1
                        have L2 := (SW.ix (i := 1) rfl).2
                        by_cases c8 : x1 = 92
                        · have d9 : decide (¬ x1 = 92) = false := by simp [c8]
                          by_cases c9 : x2 = 125
                          · have d10 : decide (¬ x2 = 125) = false := by simp [c9]
                            subst c8 c9
                            have SL : aslice prog h 22 w3 (some (.int .i64 2)) none none = some _ := (SW.lo (k := 2) (by simp)).1
                            have S2 := (SW.lo (k := 2) (by simp)).2
                            obtain ⟨h4, e4, R4, C4, z4⟩ := R.setR H S2.1 (fun b e => hwb3 b (by rw [← S2.2]; exact e))
                            have V4 := Ch.var H C4 V htr
                            have P4 := ReR.ch C4 (fun b e => by rw [show b = rb from e]; exact hDr) p c P
                            have hD4 : ∀ b, D b → b < h4.size := fun b e => by rw [z4]; exact hD b e
                            obtain ⟨h5, e5, c', V5, P5, R5, C5⟩ := star_put (lo := lo) (hi := hi) R4 (Ch.wf C4) V4 P4 hD4 hDr hDt htr htp
                            simp only [wk, wt, wl, ↓reduceIte, Nat.reduceEqDiff, Nat.reduceAdd, Nat.zero_add, not_false_eq_true, not_true_eq_false, pt, mxV, d5, d6, LW, d8, I1, L1, I2, L2, d9, d10, SL, e4, V4.re, bsRe (h := h4) P.one1.1 P.one1.2, build_relhp (one_slice), e5]
                            exact .inr ⟨_, _, c', by rw [rmT, hgT]; rfl, V5, P5, R5, (C4.mono fun b e => .inl e).then C5 fun b e => .inr e⟩
                          · have d10 : decide (¬ x2 = 125) = true := by simp [c9]
                            simp only [wk, wt, wl, ↓reduceIte, Nat.reduceEqDiff, Nat.reduceAdd, Nat.zero_add, not_false_eq_true, not_true_eq_false, pt, mxV, d5, d6, LW, d8, I1, L1, I2, L2, d9, d10, build_fault, conc_fault]
                            exact ⟨10, by rw [rmT, hgT]; simp [endM, c9], rfl, KR.mono fun _ e => e.elim⟩
                        · have d9 : decide (¬ x1 = 92) = true := by simp [c8]
                          simp only [wk, wt, wl, ↓reduceIte, Nat.reduceEqDiff, Nat.reduceAdd, Nat.zero_add, not_false_eq_true, not_true_eq_false, pt, mxV, d5, d6, LW, d8, I1, L1, d9, build_fault, conc_fault]
                          exact ⟨10, by rw [rmT, hgT]; simp [endM, c8], rfl, KR.mono fun _ e => e.elim⟩
            · have d4 := decide_eq_false c3
              have hh1 : hiM lo (z :: r1) = (lo, z :: r1) := by simp [hiM, c3]
              rw [hh1] at hT0
              simp only [wk, wt, wl, ↓reduceIte, Nat.reduceEqDiff, Nat.reduceAdd, Nat.zero_add, not_false_eq_true, not_true_eq_false, pt, LW, d3, IZ, LZ, d4]
              have hgT : timesM t = (if 100 < kmax lo lo ∨ (0 ≤ lo ∧ lo < lo) then .error 11 else endM lo lo (z :: r1)) := hT0
              have rmT : repM p (92 :: 123 :: t) = (match timesM t with | .error e => .error e | .ok (lo, hi, t) => .ok (some (pStar lo hi p, t))) := rfl
              by_cases c5 : 100 < kmax lo lo
              · have d5 := decide_eq_true c5
                simp only [wk, wt, wl, ↓reduceIte, Nat.reduceEqDiff, Nat.reduceAdd, Nat.zero_add, not_false_eq_true, not_true_eq_false, pt, mxV, d5, build_fault, conc_fault]
                exact ⟨11, by rw [rmT, hgT, if_pos (.inl c5)], rfl, KR.mono fun _ e => e.elim⟩
              · have d5 := decide_eq_false c5
                by_cases c6 : 0 ≤ lo ∧ lo < lo
                · have d6 := decide_eq_true c6.1
                  have d7 := decide_eq_true c6.2
                  simp only [wk, wt, wl, ↓reduceIte, Nat.reduceEqDiff, Nat.reduceAdd, Nat.zero_add, not_false_eq_true, not_true_eq_false, pt, mxV, d5, d6, d7, build_fault, conc_fault]
                  exact ⟨11, by rw [rmT, hgT, if_pos (.inr c6)], rfl, KR.mono fun _ e => e.elim⟩
                · rw [if_neg (fun e => e.elim c5 c6)] at hgT
                  have hcond : ∀ {A : Prop}, ((0 ≤ lo → decide (lo < lo) = false → A) ∧ (¬ 0 ≤ lo → A)) → A := fun {A} q => by
                    by_cases e : 0 ≤ lo
                    · exact q.1 e (decide_eq_false fun f => c6 ⟨e, f⟩)
                    · exact q.2 e
                  refine hcond ⟨fun c7 d7 => ?_, fun c7 => ?_⟩
                  · have d6 := decide_eq_true c7
                    generalize hrr : (z :: r1) = rr at hgT
                    have SW : RdI prog h .i32 w rr := by rw [← hrr]; exact Sw
                    rcases rr with _ | ⟨x1, _ | ⟨x2, r2⟩⟩
                    · have LW := SW.ln (n := 0) rfl
                      have d8 : decide ((0 : Int) < 2) = true := rfl
                      simp only [wk, wt, wl, ↓reduceIte, Nat.reduceEqDiff, Nat.reduceAdd, Nat.zero_add, not_false_eq_true, not_true_eq_false, pt, mxV, d5, d6, d7, LW, d8, build_fault, conc_fault]
                      exact ⟨10, by rw [rmT, hgT]; simp [endM], rfl, KR.mono fun _ e => e.elim⟩
                    · have LW := SW.ln (n := 1) rfl
                      have d8 : decide ((1 : Int) < 2) = true := rfl
                      simp only [wk, wt, wl, ↓reduceIte, Nat.reduceEqDiff, Nat.reduceAdd, Nat.zero_add, not_false_eq_true, not_true_eq_false, pt, mxV, d5, d6, d7, LW, d8, build_fault, conc_fault]
                      exact ⟨10, by rw [rmT, hgT]; simp [endM], rfl, KR.mono fun _ e => e.elim⟩
                    · have LW := SW.ln (n := (r2.length : Int) + 2) (by simp; omega)
                      have d8 : decide ((r2.length : Int) + 2 < 2) = false := decide_eq_false (by omega)
                      have I1 : aindexAddr prog 22 w (.int .i64 0) = _ := (SW.ix (i := 0) rfl).1
                      have L1 := (SW.ix (i := 0) rfl).2
                      have I2 : aindexAddr prog 22 w (.int .i64 1) = _ := (SW.ix (i := 1) rfl).1
                      have L2 := (SW.ix (i := 1) rfl).2
                      by_cases c8 : x1 = 92
                      · have d9 : decide (¬ x1 = 92) = false := by simp [c8]
                        by_cases c9 : x2 = 125
                        · have d10 : decide (¬ x2 = 125) = false := by simp [c9]
                          subst c8 c9
                          have SL : aslice prog h 22 w (some (.int .i64 2)) none none = some _ := (SW.lo (k := 2) (by simp)).1
                          have S2 := (SW.lo (k := 2) (by simp)).2
                          obtain ⟨h4, e4, R4, C4, z4⟩ := R.setR H S2.1 (fun b e => hwb b (by rw [← S2.2]; exact e))
                          have V4 := Ch.var H C4 V htr
                          have P4 := ReR.ch C4 (fun b e => by rw [show b = rb from e]; exact hDr) p c P
                          have hD4 : ∀ b, D b → b < h4.size := fun b e => by rw [z4]; exact hD b e
                          obtain ⟨h5, e5, c', V5, P5, R5, C5⟩ := star_put (lo := lo) (hi := lo) R4 (Ch.wf C4) V4 P4 hD4 hDr hDt htr htp
                          simp only [wk, wt, wl, ↓reduceIte, Nat.reduceEqDiff, Nat.reduceAdd, Nat.zero_add, not_false_eq_true, not_true_eq_false, pt, mxV, d5, d6, d7, LW, d8, I1, L1, I2, L2, d9, d10, SL, e4, V4.re, bsRe (h := h4) P.one1.1 P.one1.2, build_relhp (one_slice), e5]
                          exact .inr ⟨_, _, c', by rw [rmT, hgT]; rfl, V5, P5, R5, (C4.mono fun b e => .inl e).then C5 fun b e => .inr e⟩
                        · have d10 : decide (¬ x2 = 125) = true := by simp [c9]
                          simp only [wk, wt, wl, ↓reduceIte, Nat.reduceEqDiff, Nat.reduceAdd, Nat.zero_add, not_false_eq_true, not_true_eq_false, pt, mxV, d5, d6, d7, LW, d8, I1, L1, I2, L2, d9, d10, build_fault, conc_fault]
                          exact ⟨10, by rw [rmT, hgT]; simp [endM, c9], rfl, KR.mono fun _ e => e.elim⟩
                      · have d9 : decide (¬ x1 = 92) = true := by simp [c8]
                        simp only [wk, wt, wl, ↓reduceIte, Nat.reduceEqDiff, Nat.reduceAdd, Nat.zero_add, not_false_eq_true, not_true_eq_false, pt, mxV, d5, d6, d7, LW, d8, I1, L1, d9, build_fault, conc_fault]
                        exact ⟨10, by rw [rmT, hgT]; simp [endM, c8], rfl, KR.mono fun _ e => e.elim⟩
                  · have d6 := decide_eq_false c7
                    generalize hrr : (z :: r1) = rr at hgT
                    have SW : RdI prog h .i32 w rr := by rw [← hrr]; exact Sw
                    rcases rr with _ | ⟨x1, _ | ⟨x2, r2⟩⟩
                    · have LW := SW.ln (n := 0) rfl
                      have d8 : decide ((0 : Int) < 2) = true := rfl
                      simp only [wk, wt, wl, ↓reduceIte, Nat.reduceEqDiff, Nat.reduceAdd, Nat.zero_add, not_false_eq_true, not_true_eq_false, pt, mxV, d5, d6, LW, d8, build_fault, conc_fault]
                      exact ⟨10, by rw [rmT, hgT]; simp [endM], rfl, KR.mono fun _ e => e.elim⟩
                    · have LW := SW.ln (n := 1) rfl
                      have d8 : decide ((1 : Int) < 2) = true := rfl
                      simp only [wk, wt, wl, ↓reduceIte, Nat.reduceEqDiff, Nat.reduceAdd, Nat.zero_add, not_false_eq_true, not_true_eq_false, pt, mxV, d5, d6, LW, d8, build_fault, conc_fault]
                      exact ⟨10, by rw [rmT, hgT]; simp [endM], rfl, KR.mono fun _ e => e.elim⟩
                    · have LW := SW.ln (n := (r2.length : Int) + 2) (by simp; omega)
                      have d8 : decide ((r2.length : Int) + 2 < 2) = false := decide_eq_false (by omega)
                      have I1 : aindexAddr prog 22 w (.int .i64 0) = _ := (SW.ix (i := 0) rfl).1
                      have L1 := (SW.ix (i := 0) rfl).2
                      have I2 : aindexAddr prog 22 w (.int .i64 1) = _ := (SW.ix (i := 1) rfl).1
                      have L2 := (SW.ix (i := 1) rfl).2
                      by_cases c8 : x1 = 92
                      · have d9 : decide (¬ x1 = 92) = false := by simp [c8]
                        by_cases c9 : x2 = 125
                        · have d10 : decide (¬ x2 = 125) = false := by simp [c9]
                          subst c8 c9
                          have SL : aslice prog h 22 w (some (.int .i64 2)) none none = some _ := (SW.lo (k := 2) (by simp)).1
                          have S2 := (SW.lo (k := 2) (by simp)).2
                          obtain ⟨h4, e4, R4, C4, z4⟩ := R.setR H S2.1 (fun b e => hwb b (by rw [← S2.2]; exact e))
                          have V4 := Ch.var H C4 V htr
                          have P4 := ReR.ch C4 (fun b e => by rw [show b = rb from e]; exact hDr) p c P
                          have hD4 : ∀ b, D b → b < h4.size := fun b e => by rw [z4]; exact hD b e
                          obtain ⟨h5, e5, c', V5, P5, R5, C5⟩ := star_put (lo := lo) (hi := lo) R4 (Ch.wf C4) V4 P4 hD4 hDr hDt htr htp
                          simp only [wk, wt, wl, ↓reduceIte, Nat.reduceEqDiff, Nat.reduceAdd, Nat.zero_add, not_false_eq_true, not_true_eq_false, pt, mxV, d5, d6, LW, d8, I1, L1, I2, L2, d9, d10, SL, e4, V4.re, bsRe (h := h4) P.one1.1 P.one1.2, build_relhp (one_slice), e5]
                          exact .inr ⟨_, _, c', by rw [rmT, hgT]; rfl, V5, P5, R5, (C4.mono fun b e => .inl e).then C5 fun b e => .inr e⟩
                        · have d10 : decide (¬ x2 = 125) = true := by simp [c9]
                          simp only [wk, wt, wl, ↓reduceIte, Nat.reduceEqDiff, Nat.reduceAdd, Nat.zero_add, not_false_eq_true, not_true_eq_false, pt, mxV, d5, d6, LW, d8, I1, L1, I2, L2, d9, d10, build_fault, conc_fault]
                          exact ⟨10, by rw [rmT, hgT]; simp [endM, c9], rfl, KR.mono fun _ e => e.elim⟩
                      · have d9 : decide (¬ x1 = 92) = true := by simp [c8]
                        simp only [wk, wt, wl, ↓reduceIte, Nat.reduceEqDiff, Nat.reduceAdd, Nat.zero_add, not_false_eq_true, not_true_eq_false, pt, mxV, d5, d6, LW, d8, I1, L1, d9, build_fault, conc_fault]
                        exact ⟨10, by rw [rmT, hgT]; simp [endM, c8], rfl, KR.mono fun _ e => e.elim⟩
      · have d2 : decide (¬ y = 123) = true := by simp [c1]
        simp only [wk, wt, wl, ↓reduceIte, Nat.reduceEqDiff, Nat.reduceAdd, Nat.zero_add, not_false_eq_true, not_true_eq_false, pk, d0, d1, d2]
        exact .inl ⟨by simp [repM, peekM, c1], trivial⟩
    · have pk : peekV (x :: y :: t) = .tuple #[.int .i32 x, .int .i32 0, .int .i64 1] := by simp [peekV, peekM, c0]
      have d0 : decide ((1 : Int) = 1) = true := rfl
      have d1 : decide ((1 : Int) < 2) = true := rfl
      by_cases c1 : x = 42
      · have d2 := decide_eq_true c1
        subst c1
        obtain ⟨rv2, w, h1, a1, a2, a3, a4, a5, a6, a7, a8, a9, a10⟩ := R.adv H (k := 1) (by simp)
        rw [L0] at a1; cases a1
        have a4' : aslice prog h 22 rv (some (.int .i64 1)) none none = some w := a4
        have V1 := Ch.var H a9 V htr
        have P1 := ReR.ch a9 (fun b e => by rw [show b = rb from e]; exact hDr) p c P
        have hD1 : ∀ b, D b → b < h1.size := fun b e => by rw [a10]; exact hD b e
        obtain ⟨h5, e5, c', V5, P5, R5, C5⟩ := star_put (lo := 0) (hi := -1) a8 (Ch.wf a9) V1 P1 hD1 hDr hDt htr htp
        have e5' : storeV prog (h1.new 26 (reC c)) 26 (.pointer (some ⟨tb, 0, none⟩)) (reV { rc0 with k := 10, hi := -1, pv := .slice (some ⟨h1.size, 0, none⟩) 1 2 }) = some (undef, h5) := e5
        simp only [wk, wt, wl, ↓reduceIte, Nat.reduceEqDiff, Nat.reduceAdd, Nat.zero_add, not_false_eq_true, not_true_eq_false, pk, d0, d2, L0, a4', a7, V1.re, bsRe (h := h1) P.one1.1 P.one1.2, build_rehp (one_slice), e5']
        exact .inr ⟨_, _, c', rfl, V5, P5, R5, (a9.mono fun b e => .inl e).then C5 fun b e => .inr e⟩
      · have d2 := decide_eq_false c1
        simp only [wk, wt, wl, ↓reduceIte, Nat.reduceEqDiff, Nat.reduceAdd, Nat.zero_add, not_false_eq_true, not_true_eq_false, pk, d0, d2, d1]
        exact .inl ⟨by simp [repM, peekM, c0, c1], trivial⟩
end Go.Proofs.Ytnnkcbkenofhmaa.Am
end
section
/- Patterns, the program: contracts of escaped, atom, by walks. -/
set_option linter.unusedSimpArgs false
set_option linter.unusedVariables false
set_option maxHeartbeats 4000000
set_option maxRecDepth 20000
namespace Go.Proofs.Ytnnkcbkenofhmaa.Am
open Go Go.RowKit Go.Proofs.Try
/-- A reading of the program's answers as it is told. -/
def AC (f : FuncId) (args : Array Value) (h : Heap) (rb pb : Nat) (o : Int) (res : PRes) : Prop := ACallsX prog f args h
  (fun y h' => ∃ p t g' c, res = .ok (p, t, g') ∧ y = reV c ∧ ReR h' (Lt h.size) p c ∧ RD h' rb pb t g' o ∧ Ch (Bx rb) h h')
  (fun v h' => ∃ e, res = .error e ∧ v = flt e ∧ Ch (Bx rb) h h')
def Okl (l : List Int) (g : Int) : Prop := (l.length : Int) + g ≤ 10000000 ∧ 0 ≤ g ∧ I32 l
theorem Okl.sb {l t : List Int} {g g' : Int} (O : Okl l g) (hs : Sb t l) (h1 : (t.length : Int) + g' ≤ l.length + g) (h2 : g ≤ g') : Okl t g' :=
  ⟨by have := O.1; omega, by have := O.2.1; omega, fun x hx => O.2.2 x (hs x hx)⟩
/-- All alternatives, so many more groups one within the other. -/
def AltC (k : Nat) : Prop := ∀ (h : Heap) (rb pb : Nat) (l : List Int) (g : Int), RD h rb pb l g (16 - (k : Int)) → Okl l g → AC 20 #[pt rb] h rb pb (16 - (k : Int)) (altM (grpM k) l g)
abbrev LtV (m vb : Nat) : Nat → Prop := fun b => b < m ∨ b = vb
/-- A variable for the answer is put and read. -/
theorem fin_put {h h0 : Heap} {rb pb vb : Nat} {l : List Int} {g o : Int} {c d : RC} {p : Pat} (H : Wf h) (V : Var h vb (reC c)) (P : ReR h (LtV h0.size vb) p d) (R : RD h rb pb l g o) (C : Ch (Bx rb) h0 h) (hv : h0.size ≤ vb) (hp : pb < h0.size) (hr : rb < h0.size) :
    ∃ h', storeV prog h 26 (.pointer (some ⟨vb, 0, none⟩)) (reV d) = some (undef, h') ∧ aload prog h' 26 ⟨vb, 0, none⟩ = some (reV d) ∧ ReR h' (Lt h0.size) p d ∧ RD h' rb pb l g o ∧ Ch (Bx rb) h0 h' := by
  obtain ⟨h', e1, V1, C1, z1⟩ := V.put H P.one1.1 P.one1.2
  exact ⟨h', e1, V1.re, ReR.weak (fun b e => .inl e) p d (ReR.ch C1 (fun b e => .inr e) p d P), R.ch H C1 (by omega) (by omega), C.then C1 fun b e => .inl (by omega)⟩
theorem AC.ok {f : FuncId} {args : Array Value} {h : Heap} {rb pb : Nat} {o : Int} {res : PRes} {Qr Qp : Value → Heap → Prop} (A : AC f args h rb pb o res)
    (h1 : ∀ p t g' c h', res = .ok (p, t, g') → ReR h' (Lt h.size) p c → RD h' rb pb t g' o → Ch (Bx rb) h h' → Qr (reV c) h') (h2 : ∀ e h', res = .error e → Ch (Bx rb) h h' → Qp (flt e) h') : ACallsX prog f args h Qr Qp :=
  ACallsX.mono A (fun v h' ⟨p, t, g', c, e1, e2, e3, e4, e5⟩ => by rw [e2]; exact h1 p t g' c h' e1 e3 e4 e5) (fun v h' ⟨e, e1, e2, e3⟩ => by rw [e2]; exact h2 e h' e1 e3)
theorem escaped_ok {k : Nat} (hk : k ≤ 16) (G : ∀ j, k = j + 1 → AltC j) {h : Heap} {rb pb : Nat} {y : Int} {t : List Int} {g : Int} (R : RD h rb pb (92 :: y :: t) g (16 - (k : Int))) (O : Okl (92 :: y :: t) g) :
    AC 40 #[pt rb, .int .i32 y] h rb pb (16 - (k : Int)) (escM (grpM k) y (92 :: y :: t) g) := by
  unfold AC
  refine acallsX_of_W' func40 rfl (by kernel_rfl) (by kernel_rfl) (by simp [ntmps40]) ?_
  intro H
  obtain ⟨hrl, hpl, hpr⟩ := R.lt H
  have N1 := Keeps.new H 26 (reC rc0)
  have V1 := Var.new (e := 26) H (cs := reC rc0)
  have R1 := R.keeps H N1
  have C1 : Ch (Bx rb) h (h.new 26 (reC rc0)) := N1.mono fun _ e => e.elim
  by_cases c1 : y = 125
  · have d1 := decide_eq_true c1
    simp only [wk, wt, wl, ↓reduceIte, Nat.reduceEqDiff, Nat.reduceAdd, Nat.zero_add, not_false_eq_true, not_true_eq_false, pt, newRe, newSz, d1, build_fault, conc_fault]
    exact ⟨10, by simp [escM, c1], rfl, C1⟩
  have d1 := decide_eq_false c1
  by_cases c2 : y = 123
  · have d2 := decide_eq_true c2
    simp only [wk, wt, wl, ↓reduceIte, Nat.reduceEqDiff, Nat.reduceAdd, Nat.zero_add, not_false_eq_true, not_true_eq_false, pt, newRe, newSz, d1, d2, build_fault, conc_fault]
    exact ⟨11, by simp [escM, c2], rfl, C1⟩
  have d2 := decide_eq_false c2
  obtain ⟨rv, w, h2, a1, a2, a3, a4, a5, a6, a7, R2, C2, z2⟩ := R1.adv (Ch.wf N1) (k := 2) (by simp)
  have a4' : aslice prog (h.new 26 (reC rc0)) 22 rv (some (.int .i64 2)) none none = some w := a4
  have C02 : Ch (Bx rb) h h2 := C1.then C2 fun b e => .inr e
  have V2 := Ch.var (Ch.wf N1) C2 V1 (by omega)
  have R2' : RD h2 rb pb t g (16 - (k : Int)) := R2
  have hz1 : (h.new 26 (reC rc0)).size = h.size + 1 := rfl
  by_cases c3 : y = 60
  · have d3 := decide_eq_true c3
    subst c3
    have EQ : escM (grpM k) 60 (92 :: 60 :: t) g = .ok (pK 6, t, g) := rfl
    obtain ⟨h9, e9, l9, P9, R9, C9⟩ := fin_put (h0 := h) (d := { rc0 with k := 6 }) (Ch.wf C2) V2 ReR.k R2' C02 (Nat.le_refl _) hpl hrl
    simp only [wk, wt, wl, ↓reduceIte, Nat.reduceEqDiff, Nat.reduceAdd, Nat.zero_add, not_false_eq_true, not_true_eq_false, pt, newRe, newSz, d1, d2, d3, a1, a4', a7, build_rek, e9, l9]
    exact ⟨_, _, _, _, EQ, rfl, P9, R9, C9⟩
  have d3 := decide_eq_false c3
  by_cases c4 : y = 62
  · have d4 := decide_eq_true c4
    subst c4
    have EQ : escM (grpM k) 62 (92 :: 62 :: t) g = .ok (pK 7, t, g) := rfl
    obtain ⟨h9, e9, l9, P9, R9, C9⟩ := fin_put (h0 := h) (d := { rc0 with k := 7 }) (Ch.wf C2) V2 ReR.k R2' C02 (Nat.le_refl _) hpl hrl
    simp only [wk, wt, wl, ↓reduceIte, Nat.reduceEqDiff, Nat.reduceAdd, Nat.zero_add, not_false_eq_true, not_true_eq_false, pt, newRe, newSz, d1, d2, d3, d4, a1, a4', a7, build_rek, e9, l9]
    exact ⟨_, _, _, _, EQ, rfl, P9, R9, C9⟩
  have d4 := decide_eq_false c4
  by_cases c5 : y = 40
  · have d5 := decide_eq_true c5
    subst c5
    have EQ : escM (grpM k) 40 (92 :: 40 :: t) g = grpM k t g := rfl
    rw [EQ]
    obtain ⟨rv2, RV2, _⟩ := id R2'
    have LO := RV2.ld.2.2
    have wo : IntKind.i64.wrap (16 - (k : Int) + 1) = 17 - (k : Int) := by rw [IntWalk.i64_in _ (by omega)]; omega
    obtain ⟨h3, e3, R3, C3, z3⟩ := R2'.setO (Ch.wf C2) (17 - (k : Int))
    have C03 : Ch (Bx rb) h h3 := C02.then C3 fun b e => .inr e
    have V3 := Ch.var (Ch.wf C2) C3 V2 (by omega)
    obtain ⟨rv3, RV3, _⟩ := id R3
    have LO3 := RV3.ld.2.2
    have LG3 := RV3.ld.2.1
    rcases k with _ | k
    · have d6 : decide (16 < 17 - ((0 : Nat) : Int)) = true := rfl
      simp only [wk, wt, wl, ↓reduceIte, Nat.reduceEqDiff, Nat.reduceAdd, Nat.zero_add, not_false_eq_true, not_true_eq_false, pt, newRe, newSz, d1, d2, d3, d4, d5, a1, a4', a7, LO, wo, e3, LO3, d6, build_fault, conc_fault]
      exact ⟨12, rfl, rfl, C03⟩
    · have d6 : decide (16 < 17 - ((k + 1 : Nat) : Int)) = false := decide_eq_false (by omega)
      have hgb : g + 1 ≤ 10000000 := by have := O.1; simp only [List.length_cons] at this; omega
      have wg : IntKind.i64.wrap (g + 1) = g + 1 := IntWalk.i64_in _ (by have := O.2.1; omega)
      obtain ⟨h4, e4, R4, C4, z4⟩ := R3.setG (Ch.wf C3) (g + 1)
      have C04 : Ch (Bx rb) h h4 := C03.then C4 fun b e => .inr e
      have V4 := Ch.var (Ch.wf C3) C4 V3 (by omega)
      obtain ⟨rv4, RV4, _⟩ := id R4
      have LG4 := RV4.ld.2.1
      have N5 := Keeps.new (Ch.wf C4) 26 (reC rc0)
      obtain ⟨h5, e5, V5, C5, z5⟩ := (Var.new (e := 26) (Ch.wf C4) (cs := reC rc0)).put (Ch.wf N5) (d := { rc0 with k := 11, lo := g + 1 }) rfl rfl
      have K5 : Keeps h4 h5 := N5.step C5 fun b e => by omega
      have R5 := R4.keeps (Ch.wf C4) K5
      have V45 := Keeps.var (Ch.wf C4) K5 V4
      have hz4 : h4.size = h.size + 1 := by omega
      have hz5 : h5.size = h.size + 2 := by rw [z5]; show h4.size + 1 = _; omega
      have hoo : (17 - ((k + 1 : Nat) : Int)) = 16 - (k : Int) := by omega
      rw [hoo] at R5
      have O5 : Okl t (g + 1) := ⟨by have := O.1; simp only [List.length_cons] at this; omega, by have := O.2.1; omega, fun x hx => O.2.2 x (by simp [hx])⟩
      simp only [wk, wt, wl, ↓reduceIte, Nat.reduceEqDiff, Nat.reduceAdd, Nat.zero_add, not_false_eq_true, not_true_eq_false, pt, newRe, newSz, d1, d2, d3, d4, d5, a1, a4', a7, LO, wo, e3, LO3, d6, LG3, wg, e4, LG4, build_relo, e5]
      refine (G k rfl h5 rb pb t (g + 1) R5 O5).ok ?_ ?_
      · intro p t' g' c h6 hres P6 R6 C6
        have C46 : Ch (Bx rb) h4 h6 := (K5.mono (D' := Bx rb) fun _ e => e.elim).then C6 fun b e => .inr e
        have C06 : Ch (Bx rb) h h6 := C04.then C46 fun b e => .inr e
        have V6 := Ch.var (Ch.wf C5) C6 V5 (by omega)
        have V46 := Ch.var (Ch.wf K5) C6 V45 (by omega)
        have N7 := Keeps.new (Ch.wf C6) 26 (reC c)
        obtain ⟨h7, e7, V7, C7, z7⟩ := (Keeps.var (Ch.wf C6) N7 V6).store1 (P := prog) (t := 24) (v := .slice (some ⟨h6.size, 0, none⟩) 1 2) (i := 6) (Ch.wf N7) asz24 (by simp [reC]) rfl
        have V7' : Var h7 h4.size (reC { rc0 with k := 11, lo := g + 1, pv := .slice (some ⟨h6.size, 0, none⟩) 1 2 }) := V7
        have K7 : Ch (fun b => b = h4.size) h6 h7 := (N7.mono (D' := fun b => b = h4.size) fun _ e => e.elim).then C7 fun b e => .inr e
        have hl6 := Ch.le C6
        have R7 : RD h7 rb pb t' g' (16 - (k : Int)) := R6.ch (Ch.wf C6) K7 (by omega) (by omega)
        have V47 := Ch.var (Ch.wf C6) K7 V46 (by omega)
        have P7 : ReR h7 (Lt h5.size) p c := ReR.ch K7 (fun b e => by show b < _; omega) p c P6
        have S7 : RS prog h7 7 reC (.slice (some ⟨h6.size, 0, none⟩) 1 2) [c] := Ch.rd C7 (Rd.new (Ch.wf C6) asz26 rfl) fun b e f => by
          have e2 : h6.size = b := by cases e; rfl
          omega
        have PG : ReR h7 (LtV h.size h.size) (pG (g + 1) p) { rc0 with k := 11, lo := g + 1, pv := .slice (some ⟨h6.size, 0, none⟩) 1 2 } := ReR.ps (l := [c]) S7 (fun b e f => by
          have e2 : h6.size = b := by cases e; rfl
          rcases f with f | f <;> omega) (RePs.one (ReR.weak (fun b e => by show b < _; rcases e with e | e <;> omega) p c P7))
        have C07 : Ch (Bx rb) h h7 := C06.then K7 fun b e => .inl (by omega)
        have hM : grpM (k + 1) t g = if t'.length = 0 then .error 10 else .ok (pG (g + 1) p, t'.drop 2, g') := by
          simp only [grpM]; rw [hres]
        have cl := altM_len (grpM_GL k) hres
        obtain ⟨rv7, RV7, S7r, _⟩ := id R7
        have L7 := RV7.ld.1
        have bsC := bsRe (h := h6) P6.one1.1 P6.one1.2
        rcases t' with _ | ⟨b1, t''⟩
        · have LN7 := S7r.ln (n := 0) rfl
          have d8 : decide ((0 : Int) = 0) = true := rfl
          simp only [wk, wt, wl, ↓reduceIte, Nat.reduceEqDiff, Nat.reduceAdd, Nat.zero_add, not_false_eq_true, not_true_eq_false, pt, bsC, newSz, e7, L7, LN7, d8, build_fault, conc_fault]
          exact ⟨10, hM, rfl, C07⟩
        · obtain ⟨u, hu⟩ := closes cl.2.1 cl.2.2 (by simp)
          rw [hu] at R7 S7r hM
          have LN7 := S7r.ln (n := (u.length : Int) + 2) (by simp; omega)
          have d8 : decide ((u.length : Int) + 2 = 0) = false := decide_eq_false (by omega)
          obtain ⟨rv8, w8, h8, b1, b2, b3, b4, b5, b6, b7, R8, C8, z8⟩ := R7.adv (Ch.wf K7) (k := 2) (by simp)
          rw [L7] at b1; cases b1
          have b4' : aslice prog h7 22 rv7 (some (.int .i64 2)) none none = some w8 := b4
          obtain ⟨rv9, RV9, _⟩ := id R8
          have LO8 := RV9.ld.2.2
          have wo2 : IntKind.i64.wrap (16 - (k : Int) - 1) = 16 - ((k + 1 : Nat) : Int) := by rw [IntWalk.i64_in _ (by omega)]; omega
          obtain ⟨h9, e9, R9, C9, z9⟩ := R8.setO (Ch.wf C8) (16 - ((k + 1 : Nat) : Int))
          have C79 : Ch (Bx rb) h7 h9 := C8.then C9 fun b e => .inr e
          have V9 := Ch.var (Ch.wf K7) C79 V47 (by omega)
          have V79 := Ch.var (Ch.wf K7) C79 V7' (by omega)
          have P9 := ReR.ch C79 (fun b e => .inl (by have : b = rb := e; omega)) _ _ PG
          have C09 : Ch (Bx rb) h h9 := C07.then C79 fun b e => .inr e
          have R9' : RD h9 rb pb u g' (16 - ((k + 1 : Nat) : Int)) := R9
          have EQ2 : grpM (k + 1) t g = .ok (pG (g + 1) p, u, g') := by rw [hM, if_neg (by simp)]; rfl
          have V79' := V79.re
          obtain ⟨h10, e10, l9, P10, R10, C10⟩ := fin_put (h0 := h) (d := { rc0 with k := 11, lo := g + 1, pv := .slice (some ⟨h6.size, 0, none⟩) 1 2 }) (Ch.wf C79) V9 P9 R9' C09 (Nat.le_refl _) hpl hrl
          simp only [wk, wt, wl, ↓reduceIte, Nat.reduceEqDiff, Nat.reduceAdd, Nat.zero_add, not_false_eq_true, not_true_eq_false, pt, bsC, newSz, e7, L7, LN7, d8, b4', b7, LO8, wo2, e9, V79', e10, l9]
          exact ⟨_, _, _, _, EQ2, rfl, P10, R10, C10⟩
      · intro e h6 hres C6
        have C46 : Ch (Bx rb) h4 h6 := (K5.mono (D' := Bx rb) fun _ e => e.elim).then C6 fun b e => .inr e
        simp only [wk, wt, wl, ↓reduceIte, Nat.reduceEqDiff, Nat.reduceAdd, Nat.zero_add, not_false_eq_true, not_true_eq_false]
        exact ⟨e, by simp only [grpM]; rw [hres], rfl, C04.then C46 fun b e => .inr e⟩
  · have d5 := decide_eq_false c5
    have EQ : escM (grpM k) y (92 :: y :: t) g = .ok (pR y, t, g) := by simp [escM, c1, c2, c3, c4, c5]
    obtain ⟨h9, e9, l9, P9, R9, C9⟩ := fin_put (h0 := h) (d := { rc0 with k := 1, r := y }) (Ch.wf C2) V2 ReR.r R2' C02 (Nat.le_refl _) hpl hrl
    simp only [wk, wt, wl, ↓reduceIte, Nat.reduceEqDiff, Nat.reduceAdd, Nat.zero_add, not_false_eq_true, not_true_eq_false, pt, newRe, newSz, d1, d2, d3, d4, d5, a1, a4', a7, build_rer, e9, l9]
    exact ⟨_, _, _, _, EQ, rfl, P9, R9, C9⟩
end Go.Proofs.Ytnnkcbkenofhmaa.Am
end
section
/- Patterns, the program: contract of atom, by a walk. -/
set_option linter.unusedSimpArgs false
set_option linter.unusedVariables false
set_option maxHeartbeats 4000000
set_option maxRecDepth 20000
namespace Go.Proofs.Ytnnkcbkenofhmaa.Am
open Go Go.RowKit Go.Proofs.Try
theorem peek_one {x : Int} {t : List Int} (h : x ≠ 92) : peekM (x :: t) = (x, 0, 1) := by
  rcases t with _ | ⟨y, t⟩
  · rfl
  · simp [peekM, h]
theorem atom_ok {k : Nat} (hk : k ≤ 16) (G : ∀ j, k = j + 1 → AltC j) {h : Heap} {rb pb : Nat} {l : List Int} {g : Int} {first : Bool} (R : RD h rb pb l g (16 - (k : Int))) (O : Okl l g) (he : endedM l = false) :
    AC 33 #[pt rb, .bool first] h rb pb (16 - (k : Int)) (atomM (grpM k) first l g) := by
  unfold AC
  refine acallsX_of_W' func33 rfl (by kernel_rfl) (by kernel_rfl) (by simp [ntmps33]) ?_
  intro H
  obtain ⟨hrl, hpl, hpr⟩ := R.lt H
  have N1 := Keeps.new H 26 (reC rc0)
  have V1 := Var.new (e := 26) H (cs := reC rc0)
  have R1 := R.keeps H N1
  have C1 : Ch (Bx rb) h (h.new 26 (reC rc0)) := N1.mono fun _ e => e.elim
  have hz1 : (h.new 26 (reC rc0)).size = h.size + 1 := rfl
  simp only [wk, wt, wl, ↓reduceIte, Nat.reduceEqDiff, Nat.reduceAdd, Nat.zero_add, not_false_eq_true, not_true_eq_false, pt, newRe, newSz]
  refine (peek_ok R1).use_pure ?_
  rcases l with _ | ⟨x, t⟩
  · cases he
  by_cases c0 : x = 91
  · subst c0
    have pk : peekV (91 :: t) = .tuple #[.int .i32 91, .int .i32 0, .int .i64 1] := by
      rcases t with _ | ⟨y, t⟩ <;> rfl
    have d0 : decide ((91 : Int) = 91) = true := rfl
    have hM : atomM (grpM k) first (91 :: t) g = (match setM t with | .error e => .error e | .ok (p, t) => .ok (p, t, g)) := by
      rcases t with _ | ⟨y, t⟩ <;> rfl
    simp only [wk, wt, wl, ↓reduceIte, Nat.reduceEqDiff, Nat.reduceAdd, Nat.zero_add, not_false_eq_true, not_true_eq_false, pt, pk, d0]
    refine ACallsX.mono (set_ok R1 (by have := O.1; simp only [List.length_cons] at this; have := O.2.1; omega) (fun y hy => O.2.2 y (List.mem_cons_of_mem _ hy))) ?_ ?_
    · rintro _ h2 ⟨p, u, c, hres, rfl, P2, R2, C2⟩
      have C02 : Ch (Bx rb) h h2 := C1.then C2 fun b e => .inr e
      have V2 := Ch.var (Ch.wf N1) C2 V1 (by omega)
      have P2' : ReR h2 (LtV h.size h.size) p c := ReR.weak (fun b e => by show b < _; rcases e with e | e <;> omega) p c P2
      have EQ : atomM (grpM k) first (91 :: t) g = .ok (p, u, g) := by rw [hM, hres]
      obtain ⟨h9, e9, l9, P9, R9, C9⟩ := fin_put (h0 := h) (d := c) (Ch.wf C2) V2 P2' R2 C02 (Nat.le_refl _) hpl hrl
      simp only [wk, wt, wl, ↓reduceIte, Nat.reduceEqDiff, Nat.reduceAdd, Nat.zero_add, not_false_eq_true, not_true_eq_false, pt, e9, l9]
      exact ⟨_, _, _, _, EQ, rfl, P9, R9, C9⟩
    · rintro _ h2 ⟨e, hres, rfl, C2⟩
      simp only [wk, wt, wl, ↓reduceIte, Nat.reduceEqDiff, Nat.reduceAdd, Nat.zero_add, not_false_eq_true, not_true_eq_false]
      exact ⟨e, by rw [hM, hres], rfl, C1.then C2 fun b e => .inr e⟩
  have d0 := decide_eq_false c0
  by_cases c1 : x = 92
  · subst c1
    rcases t with _ | ⟨y, t⟩
    · have pk : peekV [92] = .tuple #[.int .i32 92, .int .i32 0, .int .i64 1] := rfl
      have d1 : decide ((1 : Int) = 2) = false := rfl
      have d2 : decide ((92 : Int) = 92) = true := rfl
      simp only [wk, wt, wl, ↓reduceIte, Nat.reduceEqDiff, Nat.reduceAdd, Nat.zero_add, not_false_eq_true, not_true_eq_false, pt, pk, d0, d1, d2, build_fault, conc_fault]
      exact ⟨5, rfl, rfl, C1⟩
    · have pk : peekV (92 :: y :: t) = .tuple #[.int .i32 92, .int .i32 y, .int .i64 2] := rfl
      have d1 : decide ((2 : Int) = 2) = true := rfl
      have hM : atomM (grpM k) first (92 :: y :: t) g = escM (grpM k) y (92 :: y :: t) g := rfl
      rw [hM]
      simp only [wk, wt, wl, ↓reduceIte, Nat.reduceEqDiff, Nat.reduceAdd, Nat.zero_add, not_false_eq_true, not_true_eq_false, pt, pk, d0, d1]
      refine (escaped_ok hk G R1 O).ok ?_ ?_
      · intro p u g' c h2 hres P2 R2 C2
        have C02 : Ch (Bx rb) h h2 := C1.then C2 fun b e => .inr e
        have V2 := Ch.var (Ch.wf N1) C2 V1 (by omega)
        have P2' : ReR h2 (LtV h.size h.size) p c := ReR.weak (fun b e => by show b < _; rcases e with e | e <;> omega) p c P2
        obtain ⟨h9, e9, l9, P9, R9, C9⟩ := fin_put (h0 := h) (d := c) (Ch.wf C2) V2 P2' R2 C02 (Nat.le_refl _) hpl hrl
        simp only [wk, wt, wl, ↓reduceIte, Nat.reduceEqDiff, Nat.reduceAdd, Nat.zero_add, not_false_eq_true, not_true_eq_false, pt, e9, l9]
        exact ⟨_, _, _, _, hres, rfl, P9, R9, C9⟩
      · intro e h2 hres C2
        simp only [wk, wt, wl, ↓reduceIte, Nat.reduceEqDiff, Nat.reduceAdd, Nat.zero_add, not_false_eq_true, not_true_eq_false]
        exact ⟨e, hres, rfl, C1.then C2 fun b e => .inr e⟩
  have d1 : decide ((1 : Int) = 2) = false := rfl
  have d2 := decide_eq_false c1
  have pk : peekV (x :: t) = .tuple #[.int .i32 x, .int .i32 0, .int .i64 1] := by
    rcases t with _ | ⟨y, t⟩
    · rfl
    · simp [peekV, peekM, c1]
  obtain ⟨rv, w, h2, a1, a2, a3, a4, a5, a6, a7, R2, C2, z2⟩ := R1.adv (Ch.wf N1) (k := 1) (by simp)
  have a4' : aslice prog (h.new 26 (reC rc0)) 22 rv (some (.int .i64 1)) none none = some w := a4
  have C02 : Ch (Bx rb) h h2 := C1.then C2 fun b e => .inr e
  have V2 := Ch.var (Ch.wf N1) C2 V1 (by omega)
  have R2' : RD h2 rb pb t g (16 - (k : Int)) := R2
  by_cases c3 : x = 46
  · have d3 := decide_eq_true c3
    subst c3
    have EQ : atomM (grpM k) first (46 :: t) g = .ok (pK 2, t, g) := by simp [atomM, peek_one]
    obtain ⟨h9, e9, l9, P9, R9, C9⟩ := fin_put (h0 := h) (d := { rc0 with k := 2 }) (Ch.wf C2) V2 ReR.k R2' C02 (Nat.le_refl _) hpl hrl
    simp only [wk, wt, wl, ↓reduceIte, Nat.reduceEqDiff, Nat.reduceAdd, Nat.zero_add, not_false_eq_true, not_true_eq_false, pt, newRe, newSz, pk, d0, d1, d2, d3, a1, a4', a7, build_rek, e9, l9]
    exact ⟨_, _, _, _, EQ, rfl, P9, R9, C9⟩
  have d3 := decide_eq_false c3
  by_cases c4 : x = 94
  · have d4 := decide_eq_true c4
    subst c4
    cases first with
    | true =>
      have EQ : atomM (grpM k) true (94 :: t) g = .ok (pK 4, t, g) := by simp [atomM, peek_one]
      obtain ⟨h9, e9, l9, P9, R9, C9⟩ := fin_put (h0 := h) (d := { rc0 with k := 4 }) (Ch.wf C2) V2 ReR.k R2' C02 (Nat.le_refl _) hpl hrl
      simp only [wk, wt, wl, ↓reduceIte, Nat.reduceEqDiff, Nat.reduceAdd, Nat.zero_add, not_false_eq_true, not_true_eq_false, pt, newRe, newSz, pk, d0, d1, d2, d3, d4, a1, a4', a7, build_rek, e9, l9]
      exact ⟨_, _, _, _, EQ, rfl, P9, R9, C9⟩
    | false =>
      have d5 : decide ((94 : Int) = 36) = false := rfl
      have EQ : atomM (grpM k) false (94 :: t) g = .ok (pR 94, t, g) := by simp [atomM, peek_one]
      obtain ⟨h9, e9, l9, P9, R9, C9⟩ := fin_put (h0 := h) (d := { rc0 with k := 1, r := 94 }) (Ch.wf C2) V2 ReR.r R2' C02 (Nat.le_refl _) hpl hrl
      simp only [wk, wt, wl, ↓reduceIte, Nat.reduceEqDiff, Nat.reduceAdd, Nat.zero_add, not_false_eq_true, not_true_eq_false, pt, newRe, newSz, pk, d0, d1, d2, d3, d4, d5, a1, a4', a7, build_rer, e9, l9]
      exact ⟨_, _, _, _, EQ, rfl, P9, R9, C9⟩
  have d4 := decide_eq_false c4
  by_cases c5 : x = 36
  · have d5 := decide_eq_true c5
    subst c5
    obtain ⟨rv2, RV2, S2, _⟩ := id R2'
    have L2 := RV2.ld.1
    simp only [wk, wt, wl, ↓reduceIte, Nat.reduceEqDiff, Nat.reduceAdd, Nat.zero_add, not_false_eq_true, not_true_eq_false, pt, newRe, newSz, pk, d0, d1, d2, d3, d4, d5, a1, a4', a7, L2]
    refine (ended_ok S2).use_pure ?_
    cases he : endedM t with
    | true =>
      have EQ : atomM (grpM k) first (36 :: t) g = .ok (pK 5, t, g) := by simp [atomM, peek_one, he]
      obtain ⟨h9, e9, l9, P9, R9, C9⟩ := fin_put (h0 := h) (d := { rc0 with k := 5 }) (Ch.wf C2) V2 ReR.k R2' C02 (Nat.le_refl _) hpl hrl
      simp only [wk, wt, wl, ↓reduceIte, Nat.reduceEqDiff, Nat.reduceAdd, Nat.zero_add, not_false_eq_true, not_true_eq_false, pt, build_rek, e9, l9]
      exact ⟨_, _, _, _, EQ, rfl, P9, R9, C9⟩
    | false =>
      have EQ : atomM (grpM k) first (36 :: t) g = .ok (pR 36, t, g) := by simp [atomM, peek_one, he]
      obtain ⟨h9, e9, l9, P9, R9, C9⟩ := fin_put (h0 := h) (d := { rc0 with k := 1, r := 36 }) (Ch.wf C2) V2 ReR.r R2' C02 (Nat.le_refl _) hpl hrl
      simp only [wk, wt, wl, ↓reduceIte, Nat.reduceEqDiff, Nat.reduceAdd, Nat.zero_add, not_false_eq_true, not_true_eq_false, pt, build_rer, e9, l9]
      exact ⟨_, _, _, _, EQ, rfl, P9, R9, C9⟩
  have d5 := decide_eq_false c5
  have EQ : atomM (grpM k) first (x :: t) g = .ok (pR x, t, g) := by simp [atomM, peek_one c1, c0, c1, c3, c4, c5]
  obtain ⟨h9, e9, l9, P9, R9, C9⟩ := fin_put (h0 := h) (d := { rc0 with k := 1, r := x }) (Ch.wf C2) V2 ReR.r R2' C02 (Nat.le_refl _) hpl hrl
  simp only [wk, wt, wl, ↓reduceIte, Nat.reduceEqDiff, Nat.reduceAdd, Nat.zero_add, not_false_eq_true, not_true_eq_false, pt, newRe, newSz, pk, d0, d1, d2, d3, d4, d5, a1, a4', a7, build_rer, e9, l9]
  exact ⟨_, _, _, _, EQ, rfl, P9, R9, C9⟩
end Go.Proofs.Ytnnkcbkenofhmaa.Am
end
section
/- Patterns, the program: contract of pieces, by a walk. -/
set_option linter.unusedSimpArgs false
set_option linter.unusedVariables false
set_option maxHeartbeats 4000000
set_option maxRecDepth 20000
namespace Go.Proofs.Ytnnkcbkenofhmaa.Am
open Go Go.RowKit Go.Proofs.Try
theorem body_rep : hasBody prog 34 = true := by kernel_rfl
/-- Parts one behind the other, of a list that grows: what the loops hold. -/
structure PieI (h hh : Heap) (rb pb : Nat) (o : Int) (v : Value) (acc : List Pat) (cs : List RC) (l : List Int) (g : Int) : Prop where
  V : Var hh h.size (reC rc0)
  O : OS prog (h.size + 1) hh 7 reC v cs
  A : RePs hh (Lt (h.size + 1)) acc cs
  hv : ∀ b, blkOf v = some b → h.size < b
  R : RD hh rb pb l g o
  C : Ch (Bx rb) h hh
  B : Okl l g
  z : h.size + 1 ≤ hh.size
theorem PieI.ch {h hh h2 : Heap} {rb pb : Nat} {o : Int} {v : Value} {acc : List Pat} {cs : List RC} {l t : List Int} {g g' : Int} (X : PieI h hh rb pb o v acc cs l g) {D : Nat → Prop} (C : Ch D hh h2) (hD : ∀ b, D b → b = rb ∨ hh.size ≤ b) (hr : rb < h.size) (R : RD h2 rb pb t g' o) (B : Okl t g') :
    PieI h h2 rb pb o v acc cs t g' :=
  have nv : ∀ b, blkOf v = some b → ¬ D b := fun b e f => by
    have h1 := (Rd.blk_lt X.O.1 e).1
    have h2 := X.hv b e
    rcases hD b f with q | q <;> omega
  ⟨Ch.var (Ch.wf X.C) C X.V (fun e => by have := X.z; rcases hD _ e with q | q <;> omega), Ch.own C X.O nv, RePs.chN C (fun b e => (hD b e).elim (fun q => .inl (by show b < _; omega)) .inr) acc cs X.A, X.hv, R, X.C.then C fun b e => (hD b e).elim .inr (fun q => .inl (by have := X.z; omega)), B, Nat.le_trans X.z (Ch.le C)⟩
/-- One part more. -/
theorem PieI.push {h hh : Heap} {rb pb : Nat} {o : Int} {v : Value} {acc : List Pat} {cs : List RC} {l : List Int} {g : Int} (X : PieI h hh rb pb o v acc cs l g) (hr : rb < h.size) (hp : pb < h.size) {p : Pat} {c : RC} (P : ReR hh (Lt (h.size + 1)) p c) (hb : cs.length ≤ 10000000) :
    ∃ v' h2, aappend prog (hh.new 26 (reC c)) 24 24 v (.slice (some ⟨hh.size, 0, none⟩) 1 2) = some (v', h2) ∧ PieI h h2 rb pb o v' (acc ++ [p]) (cs ++ [c]) l g ∧ Ch (fun b => blkOf v = some b ∧ h.size + 1 ≤ b) hh h2 := by
  have Hh := Ch.wf X.C
  obtain ⟨v', h2, e1, O1, C1, R1, ev⟩ := X.O.append1 (P := prog) Hh X.z underlying24 elem26 fits26 (by decide) (by decide) c rfl (by omega)
  refine ⟨v', h2, e1, ⟨Ch.var Hh C1 X.V (fun e => by have := e.2; omega), O1, RePs.snoc (RePs.reads R1 (Ch.le C1) _ _ X.A) (ReR.reads R1 (Ch.le C1) p c P), fun b e => ?_, X.R.ch Hh C1 (fun e => by have := e.2; omega) (fun e => by have := e.2; omega), X.C.then C1 fun b e => .inl (by have := e.2; omega), X.B, Nat.le_trans X.z (Ch.le C1)⟩, C1⟩
  have e2 : hh.size + 1 = b := by rw [ev] at e; cases e; rfl
  have := X.z
  omega
theorem acc_empty {h : Heap} {D : Nat → Prop} {acc : List Pat} {cs : List RC} (A : RePs h D acc cs) : decide ((cs.length : Int) = 0) = acc.isEmpty := by
  have := A.len
  cases acc with
  | nil => rw [this]; rfl
  | cons a acc => rw [this]; simp; omega
theorem pieces_ok {k : Nat} (hk : k ≤ 16) (G : ∀ j, k = j + 1 → AltC j) {h : Heap} {rb pb : Nat} {l : List Int} {g : Int} (R : RD h rb pb l g (16 - (k : Int))) (B : Okl l g) :
    AC 27 #[pt rb] h rb pb (16 - (k : Int)) (pieM (grpM k) (l.length + 1) [] l g) := by
  unfold AC
  refine acallsX_of_W' func27 rfl (by kernel_rfl) (by kernel_rfl) (by simp [ntmps27]) ?_
  intro H
  obtain ⟨hrl, hpl, hpr⟩ := R.lt H
  have N1 := Keeps.new H 26 (reC rc0)
  have V1 := Var.new (e := 26) H (cs := reC rc0)
  have R1 := R.keeps H N1
  have C1 : Ch (Bx rb) h (h.new 26 (reC rc0)) := N1.mono fun _ e => e.elim
  have hz1 : (h.new 26 (reC rc0)).size = h.size + 1 := rfl
  have X0 : PieI h (h.new 26 (reC rc0)) rb pb (16 - (k : Int)) nilS [] [] l g := ⟨V1, OS.nil, rfl, (fun b e => by cases e), R1, C1, B, by rw [hz1]; exact Nat.le_refl _⟩
  generalize hR : pieM (grpM k) (l.length + 1) [] l g = res
  simp only [wk, wt, wl, ↓reduceIte, Nat.reduceEqDiff, Nat.reduceAdd, Nat.zero_add, not_false_eq_true, not_true_eq_false, pt, newRe, newSz]
  refine W_loopI (fun n tm hh => tm 0 = pt rb ∧ tm 2 = pt h.size ∧ ∃ v acc cs l1 g1 m, tm 3 = v ∧ PieI h hh rb pb (16 - (k : Int)) v acc cs l1 g1 ∧ l1.length = n ∧ n < m ∧ acc.length + n ≤ l.length ∧ pieM (grpM k) m acc l1 g1 = res)
    ⟨l.length, (by first | rfl | (simp only [wk, wt, wl, ↓reduceIte, Nat.reduceEqDiff, Nat.reduceAdd, Nat.zero_add, not_false_eq_true, not_true_eq_false]; done) | (simp only [wk, wt, wl, ↓reduceIte, Nat.reduceEqDiff, Nat.reduceAdd, Nat.zero_add, not_false_eq_true, not_true_eq_false]; rfl) | (simp only [wk, wt, wl, ↓reduceIte, Nat.reduceEqDiff, Nat.reduceAdd, Nat.zero_add, not_false_eq_true, not_true_eq_false, pt]; done) | (simp only [wk, wt, wl, ↓reduceIte, Nat.reduceEqDiff, Nat.reduceAdd, Nat.zero_add, not_false_eq_true, not_true_eq_false, pt]; rfl)), (by first | rfl | (simp only [wk, wt, wl, ↓reduceIte, Nat.reduceEqDiff, Nat.reduceAdd, Nat.zero_add, not_false_eq_true, not_true_eq_false]; done) | (simp only [wk, wt, wl, ↓reduceIte, Nat.reduceEqDiff, Nat.reduceAdd, Nat.zero_add, not_false_eq_true, not_true_eq_false]; rfl) | (simp only [wk, wt, wl, ↓reduceIte, Nat.reduceEqDiff, Nat.reduceAdd, Nat.zero_add, not_false_eq_true, not_true_eq_false, pt]; done) | (simp only [wk, wt, wl, ↓reduceIte, Nat.reduceEqDiff, Nat.reduceAdd, Nat.zero_add, not_false_eq_true, not_true_eq_false, pt]; rfl)), nilS, [], [], l, g, l.length + 1, (by first | rfl | (simp only [wk, wt, wl, ↓reduceIte, Nat.reduceEqDiff, Nat.reduceAdd, Nat.zero_add, not_false_eq_true, not_true_eq_false]; done) | (simp only [wk, wt, wl, ↓reduceIte, Nat.reduceEqDiff, Nat.reduceAdd, Nat.zero_add, not_false_eq_true, not_true_eq_false]; rfl) | (simp only [wk, wt, wl, ↓reduceIte, Nat.reduceEqDiff, Nat.reduceAdd, Nat.zero_add, not_false_eq_true, not_true_eq_false, nilS]; done) | (simp only [wk, wt, wl, ↓reduceIte, Nat.reduceEqDiff, Nat.reduceAdd, Nat.zero_add, not_false_eq_true, not_true_eq_false, nilS]; rfl)), X0, rfl, by omega, by simp, hR⟩ ?_
  clear X0 C1 R1 V1 N1 hz1 hR
  rintro n tm hh ⟨t0, t2, v, acc, cs, l1, g1, m, t3, X, hn, hm, hac, hR⟩
  obtain ⟨m, rfl⟩ : ∃ q, m = q + 1 := ⟨m - 1, by omega⟩
  have Hh := Ch.wf X.C
  have hbl := X.B.1
  have hcl := X.A.len
  have hll : l.length ≤ 10000000 := by have := B.1; have := B.2.1; omega
  obtain ⟨rv, RV, S, _⟩ := id X.R
  have L0 := RV.ld.1
  have LNv := X.O.1.len underlying24
  simp only [wk, wt, wl, ↓reduceIte, Nat.reduceEqDiff, Nat.reduceAdd, Nat.zero_add, not_false_eq_true, not_true_eq_false, t0, t2, t3, pt, L0]
  refine (ended_ok S).use_pure ?_
  cases he : endedM l1 with
  | true =>
    have hres : res = .ok (pCat acc, l1, g1) := by rw [← hR]; simp only [pieM]; rw [he]; rfl
    have hAv := Rd.one X.O.1
    have EQ0 : ∀ {q : Pat}, pCat acc = q → res = .ok (q, l1, g1) := fun e => by rw [hres, e]
    rcases acc with _ | ⟨p1, _ | ⟨p2, acc⟩⟩
    · have d1 : decide ((cs.length : Int) = 0) = true := by rw [hcl]; rfl
      obtain ⟨h9, e9, l9, P9, R9, C9⟩ := fin_put (h0 := h) (d := rc0) Hh X.V ReR.e X.R X.C (Nat.le_refl _) hpl hrl
      simp only [wk, wt, wl, ↓reduceIte, Nat.reduceEqDiff, Nat.reduceAdd, Nat.zero_add, not_false_eq_true, not_true_eq_false, t0, t2, t3, pt, LNv, d1, build_re0, e9, l9]
      exact ⟨_, _, _, _, EQ0 rfl, rfl, P9, R9, C9⟩
    · have d1 : decide ((cs.length : Int) = 0) = false := by rw [hcl]; rfl
      have d2 : decide ((cs.length : Int) = 1) = true := by rw [hcl]; rfl
      obtain ⟨c1, hc1, P1⟩ := X.A.at (i := 0) rfl
      have IX := Rd.index X.O.1 underlying24 asz26 (q := .i64) (i := 0) (by omega) (by rw [hcl]; simp)
      have LX : aload prog hh 26 (eltA v 7 0) = some (reV c1) := RS.agg X.O.1 reC_len underlying26 rfl asz26 hc1
      have IX' : aindexAddr prog 24 v (.int .i64 0) = some (.pointer (some (eltA v 7 0))) := IX
      obtain ⟨h9, e9, l9, P9, R9, C9⟩ := fin_put (h0 := h) (d := c1) Hh X.V (ReR.weak (fun b e => by show b < _; rcases e with e | e <;> omega) _ _ P1) X.R X.C (Nat.le_refl _) hpl hrl
      simp only [wk, wt, wl, ↓reduceIte, Nat.reduceEqDiff, Nat.reduceAdd, Nat.zero_add, not_false_eq_true, not_true_eq_false, t0, t2, t3, pt, LNv, d1, d2, IX', LX, e9, l9]
      exact ⟨_, _, _, _, EQ0 rfl, rfl, P9, R9, C9⟩
    · have d1 : decide ((cs.length : Int) = 0) = false := by rw [hcl]; simp; omega
      have d2 : decide ((cs.length : Int) = 1) = false := by rw [hcl]; simp; omega
      have PP : ReR hh (LtV h.size h.size) (.mk 8 0 [] false 0 0 (p1 :: p2 :: acc)) { rc0 with k := 8, pv := v } := ReR.ps X.O.1 (fun b e f => by have := X.hv b e; rcases f with f | f <;> omega) (RePs.weak (fun b e => by show b < _; rcases e with e | e <;> omega) _ _ X.A)
      obtain ⟨h9, e9, l9, P9, R9, C9⟩ := fin_put (h0 := h) (d := { rc0 with k := 8, pv := v }) Hh X.V PP X.R X.C (Nat.le_refl _) hpl hrl
      simp only [wk, wt, wl, ↓reduceIte, Nat.reduceEqDiff, Nat.reduceAdd, Nat.zero_add, not_false_eq_true, not_true_eq_false, t0, t2, t3, pt, LNv, d1, d2, build_rep hAv, e9, l9]
      exact ⟨_, _, _, _, EQ0 rfl, rfl, P9, R9, C9⟩
  | false =>
    have hres : res = (match atomM (grpM k) acc.isEmpty l1 g1 with
      | .error e => .error e
      | .ok (p, t, g') => match repsM (t.length + 1) p t with
        | .error e => .error e
        | .ok (q, u) => pieM (grpM k) m (acc ++ [q]) u g') := by rw [← hR]; simp only [pieM]; rw [he]; rfl
    have hac0 := acc_empty X.A
    simp only [wk, wt, wl, ↓reduceIte, Nat.reduceEqDiff, Nat.reduceAdd, Nat.zero_add, not_false_eq_true, not_true_eq_false, t0, t2, t3, pt, LNv, hac0]
    refine (atom_ok hk G X.R X.B he).ok ?_ ?_
    · intro p t g' c h2 ha P2 R2 C2
      rw [ha] at hres
      simp only at hres
      have hlen := atomM_len (grpM_GL k) (ended_ne he) ha
      have B2 : Okl t g' := X.B.sb (atomM_sb (grpM_GS k) ha) hlen.2.1 hlen.2.2
      have X2 := X.ch C2 (fun b e => .inl e) hrl R2 B2
      have N3 := Keeps.new (Ch.wf C2) 26 (reC rc0)
      obtain ⟨h3, e3, V3, C3, z3⟩ := (Var.new (e := 26) (Ch.wf C2) (cs := reC rc0)).put (Ch.wf N3) (d := c) P2.one1.1 P2.one1.2
      have K3 : Keeps h2 h3 := N3.step C3 fun b e => by omega
      have X3 := X2.ch K3 (fun b e => e.elim) hrl (R2.keeps (Ch.wf C2) K3) B2
      have hz2 := Ch.le C2
      have hz := X.z
      have z3' : h3.size = h2.size + 1 := z3
      have P3 : ReR h3 (LtV (h.size + 1) h2.size) p c := ReR.ch K3 (fun _ e => e.elim) p c (ReR.up (fun b e => e.elim (fun e => .inl (by show b < _; omega)) (fun e => .inr (by omega))) p c P2)
      have A3 : RePs h3 (LtV (h.size + 1) h2.size) acc cs := RePs.ch K3 (fun _ e => e.elim) acc cs (RePs.up (fun b e => e.elim .inl (fun e => .inr (by omega))) acc cs X2.A)
      have hvt : ∀ b, blkOf v = some b → b < h2.size := fun b e => by have := (Rd.blk_lt X.O.1 e).1; omega
      obtain ⟨q0, hq0⟩ : ∃ q0, q0 = t.length + 1 := ⟨_, rfl⟩
      generalize hI : repsM (t.length + 1) p t = ires at hres
      simp only [wk, wt, wl, ↓reduceIte, Nat.reduceEqDiff, Nat.reduceAdd, Nat.zero_add, not_false_eq_true, not_true_eq_false, t0, t2, t3, pt, newRe, newSz, e3]
      refine W_loopI (fun n' tm' hh' => tm' 0 = pt rb ∧ tm' 2 = pt h.size ∧ tm' 3 = v ∧ tm' 4 = pt h2.size ∧ ∃ q c' l2 m2, Var hh' h2.size (reC c') ∧ ReR hh' (LtV (h.size + 1) h2.size) q c' ∧ RePs hh' (LtV (h.size + 1) h2.size) acc cs ∧ PieI h hh' rb pb (16 - (k : Int)) v acc cs l2 g' ∧ h2.size + 1 ≤ hh'.size ∧ l2.length = n' ∧ n' < m2 ∧ n' ≤ t.length ∧ repsM m2 q l2 = ires)
        ⟨t.length, (by first | rfl | (simp only [wk, wt, wl, ↓reduceIte, Nat.reduceEqDiff, Nat.reduceAdd, Nat.zero_add, not_false_eq_true, not_true_eq_false]; done) | (simp only [wk, wt, wl, ↓reduceIte, Nat.reduceEqDiff, Nat.reduceAdd, Nat.zero_add, not_false_eq_true, not_true_eq_false]; rfl) | (simp only [wk, wt, wl, ↓reduceIte, Nat.reduceEqDiff, Nat.reduceAdd, Nat.zero_add, not_false_eq_true, not_true_eq_false, t0, pt]; done) | (simp only [wk, wt, wl, ↓reduceIte, Nat.reduceEqDiff, Nat.reduceAdd, Nat.zero_add, not_false_eq_true, not_true_eq_false, t0, pt]; rfl)), (by first | rfl | (simp only [wk, wt, wl, ↓reduceIte, Nat.reduceEqDiff, Nat.reduceAdd, Nat.zero_add, not_false_eq_true, not_true_eq_false]; done) | (simp only [wk, wt, wl, ↓reduceIte, Nat.reduceEqDiff, Nat.reduceAdd, Nat.zero_add, not_false_eq_true, not_true_eq_false]; rfl) | (simp only [wk, wt, wl, ↓reduceIte, Nat.reduceEqDiff, Nat.reduceAdd, Nat.zero_add, not_false_eq_true, not_true_eq_false, t2, pt]; done) | (simp only [wk, wt, wl, ↓reduceIte, Nat.reduceEqDiff, Nat.reduceAdd, Nat.zero_add, not_false_eq_true, not_true_eq_false, t2, pt]; rfl)), (by first | rfl | (simp only [wk, wt, wl, ↓reduceIte, Nat.reduceEqDiff, Nat.reduceAdd, Nat.zero_add, not_false_eq_true, not_true_eq_false]; done) | (simp only [wk, wt, wl, ↓reduceIte, Nat.reduceEqDiff, Nat.reduceAdd, Nat.zero_add, not_false_eq_true, not_true_eq_false]; rfl) | (simp only [wk, wt, wl, ↓reduceIte, Nat.reduceEqDiff, Nat.reduceAdd, Nat.zero_add, not_false_eq_true, not_true_eq_false, t3]; done) | (simp only [wk, wt, wl, ↓reduceIte, Nat.reduceEqDiff, Nat.reduceAdd, Nat.zero_add, not_false_eq_true, not_true_eq_false, t3]; rfl)), (by first | rfl | (simp only [wk, wt, wl, ↓reduceIte, Nat.reduceEqDiff, Nat.reduceAdd, Nat.zero_add, not_false_eq_true, not_true_eq_false]; done) | (simp only [wk, wt, wl, ↓reduceIte, Nat.reduceEqDiff, Nat.reduceAdd, Nat.zero_add, not_false_eq_true, not_true_eq_false]; rfl) | (simp only [wk, wt, wl, ↓reduceIte, Nat.reduceEqDiff, Nat.reduceAdd, Nat.zero_add, not_false_eq_true, not_true_eq_false, pt]; done) | (simp only [wk, wt, wl, ↓reduceIte, Nat.reduceEqDiff, Nat.reduceAdd, Nat.zero_add, not_false_eq_true, not_true_eq_false, pt]; rfl)), p, c, t, t.length + 1, V3, P3, A3, X3, by omega, rfl, by omega, Nat.le_refl _, hI⟩ ?_
      clear t0 t2 t3 X3 V3 P3 A3
      rintro n' tm hh' ⟨t0, t2, t3, t4, q, c', l2, m2, V4, P4, A4, X4, z4, hn', hm2, hnt, hI⟩
      obtain ⟨m2, rfl⟩ : ∃ q, m2 = q + 1 := ⟨m2 - 1, by omega⟩
      have H4 := Ch.wf X4.C
      have LK := V4.load1 (P := prog) (t := 3) underlying3 rfl (i := 0)
      simp only [reC, List.getElem?_cons_zero] at LK
      rw [P4.kind] at LK
      have fin : ∀ (tm : Tm) (hx : Heap) (q : Pat) (c' : RC) (l2 : List Int), tm 0 = pt rb → tm 2 = pt h.size → tm 3 = v → tm 4 = pt h2.size → Var hx h2.size (reC c') → ReR hx (LtV (h.size + 1) h2.size) q c' → PieI h hx rb pb (16 - (k : Int)) v acc cs l2 g' → l2.length < n → l2.length ≤ t.length → ires = .ok (q, l2) → True := fun _ _ _ _ _ _ _ _ _ _ _ _ _ _ _ => trivial
      by_cases c4 : q.kind = 4
      · have d4 : decide (¬ q.kind = 4) = false := by simp [c4]
        have hq : ires = .ok (q, l2) := by rw [← hI]; simp only [repsM]; rw [if_pos c4]
        simp only [wk, wt, wl, ↓reduceIte, Nat.reduceEqDiff, Nat.reduceAdd, Nat.zero_add, not_false_eq_true, not_true_eq_false, t0, t2, t3, t4, pt, LK, d4]
        rw [hq] at hres
        obtain ⟨v6, h6, e6, X6, C6⟩ := X4.push hrl hpl (ReR.weak (fun b e => .inl e) _ _ P4) (by omega)
        simp only [wk, wt, wl, ↓reduceIte, Nat.reduceEqDiff, Nat.reduceAdd, Nat.zero_add, not_false_eq_true, not_true_eq_false, t0, t2, t3, t4, pt, V4.re, bsRe (h := hh') P4.one1.1 P4.one1.2, e6]
        exact ⟨l2.length, by omega, v6, _, _, l2, g', m, rfl, X6, rfl, by omega, by simp; omega, hres.symm⟩
      · have d4 : decide (¬ q.kind = 4) = true := by simp [c4]
        have hI2 : ires = (match repM q l2 with
          | .error e => .error e
          | .ok none => .ok (q, l2)
          | .ok (some (q, t)) => repsM m2 q t) := by rw [← hI]; simp only [repsM]; rw [if_neg c4]; all_goals rfl
        simp only [wk, wt, wl, ↓reduceIte, Nat.reduceEqDiff, Nat.reduceAdd, Nat.zero_add, not_false_eq_true, not_true_eq_false, t0, t2, t3, t4, pt, LK, d4]
        refine ACallsX.mono (repeat_ok X4.R V4 P4 (fun b e => by rcases e with e | e <;> omega) (.inl (by omega)) (.inr rfl) (by omega) (by omega)) ?_ ?_
        · rintro _ h5 (⟨hr, rfl, hh⟩ | ⟨q5, u, c5, hr, rfl, V5, P5, R5, C5⟩)
          · obtain rfl := hh.symm
            rw [hr] at hI2
            have hq : ires = .ok (q, l2) := hI2
            simp only [wk, wt, wl, ↓reduceIte, Nat.reduceEqDiff, Nat.reduceAdd, Nat.zero_add, not_false_eq_true, not_true_eq_false, t0, t2, t3, t4, pt]
            rw [hq] at hres
            obtain ⟨v6, h6, e6, X6, C6⟩ := X4.push hrl hpl (ReR.weak (fun b e => .inl e) _ _ P4) (by omega)
            simp only [wk, wt, wl, ↓reduceIte, Nat.reduceEqDiff, Nat.reduceAdd, Nat.zero_add, not_false_eq_true, not_true_eq_false, t0, t2, t3, t4, pt, V4.re, bsRe (h := hh') P4.one1.1 P4.one1.2, e6]
            exact ⟨l2.length, by omega, v6, _, _, l2, g', m, rfl, X6, rfl, by omega, by simp; omega, hres.symm⟩
          · rw [hr] at hI2
            have hlu := repM_len hr
            have B5 : Okl u g' := X4.B.sb (repM_sb hr) (by omega) (Int.le_refl _)
            have nD : ∀ b, (b = rb ∨ b = h2.size) → LtV (h.size + 1) h2.size b := fun b e => e.elim (fun e => .inl (by omega)) .inr
            have A5 := RePs.ch C5 nD acc cs A4
            have X5 : PieI h h5 rb pb (16 - (k : Int)) v acc cs u g' := ⟨Ch.var H4 C5 X4.V (fun e => by rcases e with e | e <;> omega), Ch.own C5 X4.O (fun b e f => by
              have h1 := hvt b e
              have h2 := X.hv b e
              rcases f with f | f <;> omega), RePs.weak (fun b e => .inl e) acc cs A5, X.hv, R5, X4.C.then C5 fun b e => e.elim .inr (fun e => .inl (by omega)), B5, Nat.le_trans X4.z (Ch.le C5)⟩
            simp only [wk, wt, wl, ↓reduceIte, Nat.reduceEqDiff, Nat.reduceAdd, Nat.zero_add, not_false_eq_true, not_true_eq_false, t0, t2, t3, t4, pt]
            exact ⟨u.length, by omega, q5, c5, u, m2, V5, P5, A5, X5, by have := Ch.le C5; omega, rfl, by omega, by omega, hI2.symm⟩
        · rintro _ h5 ⟨e, hr, rfl, C5⟩
          rw [hr] at hI2
          rw [hI2] at hres
          simp only [wk, wt, wl, ↓reduceIte, Nat.reduceEqDiff, Nat.reduceAdd, Nat.zero_add, not_false_eq_true, not_true_eq_false]
          exact ⟨e, hres, rfl, X4.C.then C5 fun b e => e.elim .inr (fun e => .inl (by omega))⟩
    · intro e h2 ha C2
      rw [ha] at hres
      simp only [wk, wt, wl, ↓reduceIte, Nat.reduceEqDiff, Nat.reduceAdd, Nat.zero_add, not_false_eq_true, not_true_eq_false]
      exact ⟨e, hres, rfl, X.C.then C2 fun b e => .inr e⟩
end Go.Proofs.Ytnnkcbkenofhmaa.Am
end
section
/- Patterns, the program: contract of alternatives, by a walk; of any depth. -/
set_option linter.unusedSimpArgs false
set_option linter.unusedVariables false
set_option maxHeartbeats 4000000
set_option maxRecDepth 20000
namespace Go.Proofs.Ytnnkcbkenofhmaa.Am
open Go Go.RowKit Go.Proofs.Try
theorem alts_step {k : Nat} (hk : k ≤ 16) (G : ∀ j, k = j + 1 → AltC j) : AltC k := by
  intro h rb pb l g R B
  unfold AC
  refine acallsX_of_W' func20 rfl (by kernel_rfl) (by kernel_rfl) (by simp [ntmps20]) ?_
  intro H
  obtain ⟨hrl, hpl, hpr⟩ := R.lt H
  have N1 := Keeps.new H 26 (reC rc0)
  have V1 := Var.new (e := 26) H (cs := reC rc0)
  have R1 := R.keeps H N1
  have C1 : Ch (Bx rb) h (h.new 26 (reC rc0)) := N1.mono fun _ e => e.elim
  have hz1 : (h.new 26 (reC rc0)).size = h.size + 1 := rfl
  have hll : l.length ≤ 10000000 := by have := B.1; have := B.2.1; omega
  have hres : ∃ res, altM (grpM k) l g = res ∧ res = (match pieM (grpM k) (l.length + 1) [] l g with
    | .error e => .error e
    | .ok (p, t, g') => altsM (grpM k) (t.length + 1) [p] t g') := ⟨_, rfl, rfl⟩
  obtain ⟨res, hr0, hres⟩ := hres
  rw [hr0]
  simp only [wk, wt, wl, ↓reduceIte, Nat.reduceEqDiff, Nat.reduceAdd, Nat.zero_add, not_false_eq_true, not_true_eq_false, pt, newRe, newSz]
  refine (pieces_ok hk G R1 B).ok ?_ ?_
  · intro p t g' c h2 hp P2 R2 C2
    rw [hp] at hres
    simp only at hres
    have hl1 := (pieM_len (grpM_GL k) _ hp).1
    have B2 : Okl t g' := B.sb (pieM_sb (grpM_GS k) _ hp) hl1.2.1 hl1.2.2
    have N3 := Keeps.new (Ch.wf C2) 26 (reC c)
    have hz2 := Ch.le C2
    rw [hz1] at hz2
    have O3 : OS prog (h.size + 1) (h2.new 26 (reC c)) 7 reC (.slice (some ⟨h2.size, 0, none⟩) 1 2) [c] := Own.new (Ch.wf C2) hz2 asz26 rfl
    have X3 : PieI h (h2.new 26 (reC c)) rb pb (16 - (k : Int)) (.slice (some ⟨h2.size, 0, none⟩) 1 2) [p] [c] t g' :=
      ⟨Keeps.var (Ch.wf C2) N3 (Ch.var (Ch.wf N1) C2 V1 (by omega)), O3, RePs.one (ReR.ch N3 (fun _ e => e.elim) p c P2), (fun b e => by
        have e2 : h2.size = b := by cases e; rfl
        omega), R2.keeps (Ch.wf C2) N3, (C1.then C2 fun b e => .inr e).then N3 fun _ e => e.elim, B2, by show h.size + 1 ≤ h2.size + 1; omega⟩
    simp only [wk, wt, wl, ↓reduceIte, Nat.reduceEqDiff, Nat.reduceAdd, Nat.zero_add, not_false_eq_true, not_true_eq_false, pt, bsRe (h := h2) P2.one1.1 P2.one1.2]
    refine W_loopI (fun n tm hh => tm 0 = pt rb ∧ tm 2 = pt h.size ∧ ∃ v acc cs l1 g1 m, tm 3 = v ∧ PieI h hh rb pb (16 - (k : Int)) v acc cs l1 g1 ∧ l1.length = n ∧ n < m ∧ acc.length + n ≤ l.length + 1 ∧ 1 ≤ acc.length ∧ altsM (grpM k) m acc l1 g1 = res)
      ⟨t.length, (by first | rfl | (simp only [wk, wt, wl, ↓reduceIte, Nat.reduceEqDiff, Nat.reduceAdd, Nat.zero_add, not_false_eq_true, not_true_eq_false]; done) | (simp only [wk, wt, wl, ↓reduceIte, Nat.reduceEqDiff, Nat.reduceAdd, Nat.zero_add, not_false_eq_true, not_true_eq_false]; rfl) | (simp only [wk, wt, wl, ↓reduceIte, Nat.reduceEqDiff, Nat.reduceAdd, Nat.zero_add, not_false_eq_true, not_true_eq_false, pt]; done) | (simp only [wk, wt, wl, ↓reduceIte, Nat.reduceEqDiff, Nat.reduceAdd, Nat.zero_add, not_false_eq_true, not_true_eq_false, pt]; rfl)), (by first | rfl | (simp only [wk, wt, wl, ↓reduceIte, Nat.reduceEqDiff, Nat.reduceAdd, Nat.zero_add, not_false_eq_true, not_true_eq_false]; done) | (simp only [wk, wt, wl, ↓reduceIte, Nat.reduceEqDiff, Nat.reduceAdd, Nat.zero_add, not_false_eq_true, not_true_eq_false]; rfl) | (simp only [wk, wt, wl, ↓reduceIte, Nat.reduceEqDiff, Nat.reduceAdd, Nat.zero_add, not_false_eq_true, not_true_eq_false, pt]; done) | (simp only [wk, wt, wl, ↓reduceIte, Nat.reduceEqDiff, Nat.reduceAdd, Nat.zero_add, not_false_eq_true, not_true_eq_false, pt]; rfl)), _, [p], [c], t, g', t.length + 1, (by first | rfl | (simp only [wk, wt, wl, ↓reduceIte, Nat.reduceEqDiff, Nat.reduceAdd, Nat.zero_add, not_false_eq_true, not_true_eq_false]; done) | (simp only [wk, wt, wl, ↓reduceIte, Nat.reduceEqDiff, Nat.reduceAdd, Nat.zero_add, not_false_eq_true, not_true_eq_false]; rfl)), X3, rfl, by omega, by simp; omega, by simp, hres.symm⟩ ?_
    clear X3 O3
    rintro n tm hh ⟨t0, t2, v, acc, cs, l1, g1, m, t3, X, hn, hm, hac, ha1, hR⟩
    obtain ⟨m, rfl⟩ : ∃ q, m = q + 1 := ⟨m - 1, by omega⟩
    have Hh := Ch.wf X.C
    have hbl := X.B.1
    have hcl := X.A.len
    have LNv := X.O.1.len underlying24
    simp only [wk, wt, wl, ↓reduceIte, Nat.reduceEqDiff, Nat.reduceAdd, Nat.zero_add, not_false_eq_true, not_true_eq_false, t0, t2, t3, pt]
    refine (peek_ok X.R).use_pure ?_
    have brk : barM l1 = false → res = .ok (pAlt acc, l1, g1) := fun e => by rw [← hR]; simp only [altsM]; rw [e]; rfl
    have go : barM l1 = true → res = (match pieM (grpM k) ((l1.drop 2).length + 1) [] (l1.drop 2) g1 with
      | .error e => .error e
      | .ok (p, t, g') => altsM (grpM k) m (acc ++ [p]) t g') := fun e => by rw [← hR]; simp only [altsM]; rw [e]; rfl
    rcases l1 with _ | ⟨x, _ | ⟨y, u⟩⟩
    · have hr2 := brk rfl
      have d1 : decide (¬ (0 : Int) = 2) = true := rfl
      rcases acc with _ | ⟨p1, _ | ⟨p2, acc⟩⟩
      · simp at ha1
      · have d7 : decide ((cs.length : Int) = 1) = true := by rw [hcl]; rfl
        obtain ⟨c1, hc1, P1⟩ := X.A.at (i := 0) rfl
        have IX : aindexAddr prog 24 v (.int .i64 0) = some (.pointer (some (eltA v 7 0))) := Rd.index X.O.1 underlying24 asz26 (q := .i64) (i := 0) (by omega) (by rw [hcl]; simp)
        have LX : aload prog hh 26 (eltA v 7 0) = some (reV c1) := RS.agg X.O.1 reC_len underlying26 rfl asz26 hc1
        obtain ⟨h9, e9, l9, P9, R9, C9⟩ := fin_put (h0 := h) (d := c1) Hh X.V (ReR.weak (fun b e => by show b < _; rcases e with e | e <;> omega) _ _ P1) X.R X.C (Nat.le_refl _) hpl hrl
        simp only [wk, wt, wl, ↓reduceIte, Nat.reduceEqDiff, Nat.reduceAdd, Nat.zero_add, not_false_eq_true, not_true_eq_false, t0, t2, t3, pt, peekV, peekM, d1, LNv, d7, IX, LX, e9, l9]
        exact ⟨_, _, _, _, hr2, rfl, P9, R9, C9⟩
      · have d7 : decide ((cs.length : Int) = 1) = false := by rw [hcl]; simp; omega
        have PP : ReR hh (LtV h.size h.size) (.mk 9 0 [] false 0 0 (p1 :: p2 :: acc)) { rc0 with k := 9, pv := v } := ReR.ps X.O.1 (fun b e f => by have := X.hv b e; rcases f with f | f <;> omega) (RePs.weak (fun b e => by show b < _; rcases e with e | e <;> omega) _ _ X.A)
        obtain ⟨h9, e9, l9, P9, R9, C9⟩ := fin_put (h0 := h) (d := { rc0 with k := 9, pv := v }) Hh X.V PP X.R X.C (Nat.le_refl _) hpl hrl
        simp only [wk, wt, wl, ↓reduceIte, Nat.reduceEqDiff, Nat.reduceAdd, Nat.zero_add, not_false_eq_true, not_true_eq_false, t0, t2, t3, pt, peekV, peekM, d1, LNv, d7, build_rep (Rd.one X.O.1), e9, l9]
        exact ⟨_, _, _, _, hr2, rfl, P9, R9, C9⟩
    · have hr2 := brk rfl
      have d1 : decide (¬ (1 : Int) = 2) = true := rfl
      rcases acc with _ | ⟨p1, _ | ⟨p2, acc⟩⟩
      · simp at ha1
      · have d7 : decide ((cs.length : Int) = 1) = true := by rw [hcl]; rfl
        obtain ⟨c1, hc1, P1⟩ := X.A.at (i := 0) rfl
        have IX : aindexAddr prog 24 v (.int .i64 0) = some (.pointer (some (eltA v 7 0))) := Rd.index X.O.1 underlying24 asz26 (q := .i64) (i := 0) (by omega) (by rw [hcl]; simp)
        have LX : aload prog hh 26 (eltA v 7 0) = some (reV c1) := RS.agg X.O.1 reC_len underlying26 rfl asz26 hc1
        obtain ⟨h9, e9, l9, P9, R9, C9⟩ := fin_put (h0 := h) (d := c1) Hh X.V (ReR.weak (fun b e => by show b < _; rcases e with e | e <;> omega) _ _ P1) X.R X.C (Nat.le_refl _) hpl hrl
        simp only [wk, wt, wl, ↓reduceIte, Nat.reduceEqDiff, Nat.reduceAdd, Nat.zero_add, not_false_eq_true, not_true_eq_false, t0, t2, t3, pt, peekV, peekM, d1, LNv, d7, IX, LX, e9, l9]
        exact ⟨_, _, _, _, hr2, rfl, P9, R9, C9⟩
      · have d7 : decide ((cs.length : Int) = 1) = false := by rw [hcl]; simp; omega
        have PP : ReR hh (LtV h.size h.size) (.mk 9 0 [] false 0 0 (p1 :: p2 :: acc)) { rc0 with k := 9, pv := v } := ReR.ps X.O.1 (fun b e f => by have := X.hv b e; rcases f with f | f <;> omega) (RePs.weak (fun b e => by show b < _; rcases e with e | e <;> omega) _ _ X.A)
        obtain ⟨h9, e9, l9, P9, R9, C9⟩ := fin_put (h0 := h) (d := { rc0 with k := 9, pv := v }) Hh X.V PP X.R X.C (Nat.le_refl _) hpl hrl
        simp only [wk, wt, wl, ↓reduceIte, Nat.reduceEqDiff, Nat.reduceAdd, Nat.zero_add, not_false_eq_true, not_true_eq_false, t0, t2, t3, pt, peekV, peekM, d1, LNv, d7, build_rep (Rd.one X.O.1), e9, l9]
        exact ⟨_, _, _, _, hr2, rfl, P9, R9, C9⟩
    · by_cases c1 : x = 92
      · have pk : peekV (x :: y :: u) = .tuple #[.int .i32 92, .int .i32 y, .int .i64 2] := by simp [peekV, peekM, c1]
        have d1 : decide (¬ (2 : Int) = 2) = false := rfl
        by_cases c2 : y = 124
        · have d2 : decide (¬ y = 124) = false := by simp [c2]
          have hr2 := go (by simp [barM, c1, c2])
          obtain ⟨rv, w, h4, a1, a2, a3, a4, a5, a6, a7, R4, C4, z4⟩ := X.R.adv Hh (k := 2) (by simp)
          have a4' : aslice prog hh 22 rv (some (.int .i64 2)) none none = some w := a4
          have B4 : Okl ((x :: y :: u).drop 2) g1 := X.B.sb sb_drop (by simp; omega) (Int.le_refl _)
          have X4 := X.ch C4 (fun b e => .inl e) hrl R4 B4
          simp only [wk, wt, wl, ↓reduceIte, Nat.reduceEqDiff, Nat.reduceAdd, Nat.zero_add, not_false_eq_true, not_true_eq_false, t0, t2, t3, pt, pk, d1, d2, a1, a4', a7]
          refine (pieces_ok hk G R4 B4).ok ?_ ?_
          · intro p5 t5 g5 c5 h5 hp5 P5 R5 C5
            rw [hp5] at hr2
            simp only at hr2
            have hl5 := (pieM_len (grpM_GL k) _ hp5).1
            have B5 : Okl t5 g5 := B4.sb (pieM_sb (grpM_GS k) _ hp5) hl5.2.1 hl5.2.2
            have X5 := X4.ch C5 (fun b e => .inl e) hrl R5 B5
            have hz := X.z
            have hl2 : 2 ≤ (x :: y :: u).length := by simp
            obtain ⟨v6, h6, e6, X6, C6⟩ := X5.push hrl hpl (ReR.weak (fun b e => by show b < _; have e' : b < h.size + 1 := e; omega) p5 c5 P5) (by omega)
            simp only [List.length_drop, List.length_cons] at hl5 hn
            simp only [wk, wt, wl, ↓reduceIte, Nat.reduceEqDiff, Nat.reduceAdd, Nat.zero_add, not_false_eq_true, not_true_eq_false, t0, t2, t3, pt, bsRe (h := h5) P5.one1.1 P5.one1.2, e6]
            exact ⟨t5.length, by omega, v6, _, _, t5, g5, m, rfl, X6, rfl, by omega, by simp; omega, by simp, hr2.symm⟩
          · intro e h5 hp5 C5
            rw [hp5] at hr2
            simp only [wk, wt, wl, ↓reduceIte, Nat.reduceEqDiff, Nat.reduceAdd, Nat.zero_add, not_false_eq_true, not_true_eq_false]
            exact ⟨e, hr2, rfl, X4.C.then C5 fun b e => .inr e⟩
        · have d2 : decide (¬ y = 124) = true := by simp [c2]
          have hr2 := brk (by simp [barM, c2])
          rcases acc with _ | ⟨p1, _ | ⟨p2, acc⟩⟩
          · simp at ha1
          · have d7 : decide ((cs.length : Int) = 1) = true := by rw [hcl]; rfl
            obtain ⟨c1, hc1, P1⟩ := X.A.at (i := 0) rfl
            have IX : aindexAddr prog 24 v (.int .i64 0) = some (.pointer (some (eltA v 7 0))) := Rd.index X.O.1 underlying24 asz26 (q := .i64) (i := 0) (by omega) (by rw [hcl]; simp)
            have LX : aload prog hh 26 (eltA v 7 0) = some (reV c1) := RS.agg X.O.1 reC_len underlying26 rfl asz26 hc1
            obtain ⟨h9, e9, l9, P9, R9, C9⟩ := fin_put (h0 := h) (d := c1) Hh X.V (ReR.weak (fun b e => by show b < _; rcases e with e | e <;> omega) _ _ P1) X.R X.C (Nat.le_refl _) hpl hrl
            simp only [wk, wt, wl, ↓reduceIte, Nat.reduceEqDiff, Nat.reduceAdd, Nat.zero_add, not_false_eq_true, not_true_eq_false, t0, t2, t3, pt, pk, d1, d2, LNv, d7, IX, LX, e9, l9]
            exact ⟨_, _, _, _, hr2, rfl, P9, R9, C9⟩
          · have d7 : decide ((cs.length : Int) = 1) = false := by rw [hcl]; simp; omega
            have PP : ReR hh (LtV h.size h.size) (.mk 9 0 [] false 0 0 (p1 :: p2 :: acc)) { rc0 with k := 9, pv := v } := ReR.ps X.O.1 (fun b e f => by have := X.hv b e; rcases f with f | f <;> omega) (RePs.weak (fun b e => by show b < _; rcases e with e | e <;> omega) _ _ X.A)
            obtain ⟨h9, e9, l9, P9, R9, C9⟩ := fin_put (h0 := h) (d := { rc0 with k := 9, pv := v }) Hh X.V PP X.R X.C (Nat.le_refl _) hpl hrl
            simp only [wk, wt, wl, ↓reduceIte, Nat.reduceEqDiff, Nat.reduceAdd, Nat.zero_add, not_false_eq_true, not_true_eq_false, t0, t2, t3, pt, pk, d1, d2, LNv, d7, build_rep (Rd.one X.O.1), e9, l9]
            exact ⟨_, _, _, _, hr2, rfl, P9, R9, C9⟩
      · have pk : peekV (x :: y :: u) = .tuple #[.int .i32 x, .int .i32 0, .int .i64 1] := by simp [peekV, peekM, c1]
        have d1 : decide (¬ (1 : Int) = 2) = true := rfl
        have hr2 := brk (by simp [barM, c1])
        rcases acc with _ | ⟨p1, _ | ⟨p2, acc⟩⟩
        · simp at ha1
        · have d7 : decide ((cs.length : Int) = 1) = true := by rw [hcl]; rfl
          obtain ⟨c1, hc1, P1⟩ := X.A.at (i := 0) rfl
          have IX : aindexAddr prog 24 v (.int .i64 0) = some (.pointer (some (eltA v 7 0))) := Rd.index X.O.1 underlying24 asz26 (q := .i64) (i := 0) (by omega) (by rw [hcl]; simp)
          have LX : aload prog hh 26 (eltA v 7 0) = some (reV c1) := RS.agg X.O.1 reC_len underlying26 rfl asz26 hc1
          obtain ⟨h9, e9, l9, P9, R9, C9⟩ := fin_put (h0 := h) (d := c1) Hh X.V (ReR.weak (fun b e => by show b < _; rcases e with e | e <;> omega) _ _ P1) X.R X.C (Nat.le_refl _) hpl hrl
          simp only [wk, wt, wl, ↓reduceIte, Nat.reduceEqDiff, Nat.reduceAdd, Nat.zero_add, not_false_eq_true, not_true_eq_false, t0, t2, t3, pt, pk, d1, LNv, d7, IX, LX, e9, l9]
          exact ⟨_, _, _, _, hr2, rfl, P9, R9, C9⟩
        · have d7 : decide ((cs.length : Int) = 1) = false := by rw [hcl]; simp; omega
          have PP : ReR hh (LtV h.size h.size) (.mk 9 0 [] false 0 0 (p1 :: p2 :: acc)) { rc0 with k := 9, pv := v } := ReR.ps X.O.1 (fun b e f => by have := X.hv b e; rcases f with f | f <;> omega) (RePs.weak (fun b e => by show b < _; rcases e with e | e <;> omega) _ _ X.A)
          obtain ⟨h9, e9, l9, P9, R9, C9⟩ := fin_put (h0 := h) (d := { rc0 with k := 9, pv := v }) Hh X.V PP X.R X.C (Nat.le_refl _) hpl hrl
          simp only [wk, wt, wl, ↓reduceIte, Nat.reduceEqDiff, Nat.reduceAdd, Nat.zero_add, not_false_eq_true, not_true_eq_false, t0, t2, t3, pt, pk, d1, LNv, d7, build_rep (Rd.one X.O.1), e9, l9]
          exact ⟨_, _, _, _, hr2, rfl, P9, R9, C9⟩
  · intro e h2 hp C2
    rw [hp] at hres
    simp only [wk, wt, wl, ↓reduceIte, Nat.reduceEqDiff, Nat.reduceAdd, Nat.zero_add, not_false_eq_true, not_true_eq_false]
    exact ⟨e, hres, rfl, C1.then C2 fun b e => .inr e⟩
theorem alts_all : ∀ k, k ≤ 16 → AltC k
  | 0, hk => alts_step hk fun j e => by omega
  | k + 1, hk => alts_step hk fun j e => by
    have : j = k := by omega
    subst this
    exact alts_all j (by omega)
end Go.Proofs.Ytnnkcbkenofhmaa.Am
end
section
/- Patterns: how large one is, how many groups it has; the program and the document, by walks. -/
set_option linter.unusedSimpArgs false
set_option linter.unusedVariables false
set_option maxHeartbeats 4000000
set_option maxRecDepth 20000
namespace Go.Proofs.Ytnnkcbkenofhmaa.Am
open Go Go.RowKit Go.Proofs.Try
mutual
/-- Repetitions' counts are small. -/
def PatOk : Pat → Prop
  | .mk k _ s _ lo hi ps => (k = 10 → lo ≤ 100 ∧ hi ≤ 100) ∧ (ps.length ≤ 10000001 ∧ s.length ≤ 10000001) ∧ PatsOk ps
def PatsOk : List Pat → Prop
  | [] => True
  | p :: ps => PatOk p ∧ PatsOk ps
end
theorem PatsOk.snoc : ∀ {ps : List Pat} {p : Pat}, PatsOk ps → PatOk p → PatsOk (ps ++ [p])
  | [], p, _, h => ⟨h, trivial⟩
  | q :: ps, p, h, hp => by
    simp only [PatsOk] at h
    exact ⟨h.1, PatsOk.snoc h.2 hp⟩
theorem patOk_leaf {k r lo hi : Int} {s : List (Int × Int)} {nt : Bool} (h : k ≠ 10) (hs : s.length ≤ 10000001 := by decide) : PatOk (.mk k r s nt lo hi []) := ⟨fun e => absurd e h, ⟨by simp, hs⟩, trivial⟩
theorem spansM_len : ∀ (n : Nat) {acc s : List (Int × Int)} {l : List Int}, spansM n acc l = .ok s → s.length ≤ acc.length + l.length
  | 0, acc, s, l, h => by cases h
  | n + 1, acc, s, l, h => by
    unfold spansM at h
    split at h
    · cases h; simp
    · split at h
      · cases h
      · have := spansM_len n h; simp at this ⊢; omega
    · have := spansM_len n h; simp at this ⊢; omega
theorem timesM_ok {l t : List Int} {a b : Int} (h : timesM l = .ok (a, b, t)) : a ≤ 100 ∧ b ≤ 100 := by
  unfold timesM at h
  split at h
  · cases h
  · split at h
    · cases h
    · rename_i c
      unfold endM at h
      split at h
      · cases h
        have M := kmax_spec (digM 0 false l).1 (hiM (digM 0 false l).1 (digM 0 false l).2.1).1
        have : ¬ 100 < kmax (digM 0 false l).1 (hiM (digM 0 false l).1 (digM 0 false l).2.1).1 := fun e => c (.inl e)
        omega
      · cases h
theorem repM_ok {l t : List Int} {p q : Pat} (P : PatOk p) (h : repM p l = .ok (some (q, t))) : PatOk q := by
  unfold repM at h
  obtain ⟨x, y, n, hp⟩ : ∃ x y n, peekM l = (x, y, n) := ⟨_, _, _, rfl⟩
  rw [hp] at h
  simp only at h
  split at h
  · cases h; exact ⟨fun _ => by omega, by simp, P, trivial⟩
  · split at h
    · cases h
    · split at h
      · cases h
      · rename_i lo hi u hu
        cases h
        exact ⟨fun _ => timesM_ok hu, by simp, P, trivial⟩
theorem repsM_ok : ∀ (n : Nat) {p q : Pat} {l t : List Int}, PatOk p → repsM n p l = .ok (q, t) → PatOk q
  | 0, p, q, l, t, _, h => by cases h
  | n + 1, p, q, l, t, P, h => by
    simp only [repsM] at h
    split at h
    · cases h; exact P
    · split at h
      · cases h
      · cases h; exact P
      · rename_i a b c
        exact repsM_ok n (repM_ok P c) h
def GP1 (grp : List Int → Int → PRes) : Prop := ∀ l g p t g', l.length ≤ 10000000 → grp l g = .ok (p, t, g') → PatOk p
theorem escM_ok {grp : List Int → Int → PRes} (G : GP1 grp) {y : Int} {l t : List Int} {g g' : Int} {p : Pat} (hl : l.length ≤ 10000000) (h : escM grp y l g = .ok (p, t, g')) : PatOk p := by
  unfold escM at h
  split at h
  · cases h
  · split at h
    · cases h
    · split at h
      · cases h; exact patOk_leaf (by decide)
      · split at h
        · cases h; exact patOk_leaf (by decide)
        · split at h
          · exact G _ _ _ _ _ (by rw [List.length_drop]; omega) h
          · cases h; exact patOk_leaf (by decide)
theorem setM_ok {l t : List Int} {p : Pat} (hl : l.length ≤ 10000000) (h : setM l = .ok (p, t)) : PatOk p := by
  unfold setM at h
  simp only at h
  split at h
  · cases h
  · split at h
    · cases h
    · rename_i s hs
      cases h
      have := spansM_len _ hs
      refine patOk_leaf (by decide) (Nat.le_trans this ?_)
      simp only [List.length_nil, List.length_take]
      have ht : (if decide (l.head? = some 94) = true then l.tail else l).length ≤ l.length := by
        split
        · rw [List.length_tail]; omega
        · exact Nat.le_refl _
      omega
theorem atomM_ok {grp : List Int → Int → PRes} (G : GP1 grp) {first : Bool} {l t : List Int} {g g' : Int} {p : Pat} (hl : l.length ≤ 10000000) (h : atomM grp first l g = .ok (p, t, g')) : PatOk p := by
  unfold atomM at h
  obtain ⟨x, y, n, hp⟩ : ∃ x y n, peekM l = (x, y, n) := ⟨_, _, _, rfl⟩
  rw [hp] at h
  simp only at h
  split at h
  · split at h
    · cases h
    · rename_i q u hs
      cases h
      exact setM_ok (by rw [List.length_drop]; omega) hs
  · split at h
    · exact escM_ok G hl h
    · split at h
      · cases h
      · split at h
        · cases h; exact patOk_leaf (by decide)
        · split at h
          · cases h; exact patOk_leaf (by decide)
          · split at h
            · cases h; exact patOk_leaf (by decide)
            · cases h; exact patOk_leaf (by decide)
theorem pCat_ok : ∀ {l : List Pat}, PatsOk l → l.length ≤ 10000001 → PatOk (pCat l)
  | [], _, _ => patOk_leaf (by decide)
  | [x], h, _ => h.1
  | x :: y :: l, h, hl => ⟨(fun e => by simp at e), ⟨hl, by simp⟩, h⟩
theorem pAlt_ok : ∀ {l : List Pat}, PatsOk l → l.length ≤ 10000001 → PatOk (pAlt l)
  | [], _, _ => patOk_leaf (by decide)
  | [x], h, _ => h.1
  | x :: y :: l, h, hl => ⟨(fun e => by simp at e), ⟨hl, by simp⟩, h⟩
theorem pieM_ok {grp : List Int → Int → PRes} (G : GP1 grp) (L : GL grp) : ∀ (n : Nat) {acc : List Pat} {l t : List Int} {g g' : Int} {p : Pat}, PatsOk acc → acc.length + l.length ≤ 10000000 → pieM grp n acc l g = .ok (p, t, g') → PatOk p
  | 0, acc, l, t, g, g', p, _, _, h => by cases h
  | n + 1, acc, l, t, g, g', p, A, hl, h => by
    simp only [pieM] at h
    split at h
    · cases h; exact pCat_ok A (by omega)
    · rename_i he
      split at h
      · cases h
      · rename_i q u g1 ha
        have h1 := atomM_len L (ended_ne (by simpa using he)) ha
        split at h
        · cases h
        · rename_i q2 u2 hr
          have h2 := repsM_len _ hr
          exact pieM_ok G L n (A.snoc (repsM_ok _ (atomM_ok G (by omega) ha) hr)) (by simp; omega) h
theorem altsM_ok {grp : List Int → Int → PRes} (G : GP1 grp) (L : GL grp) : ∀ (n : Nat) {acc : List Pat} {l t : List Int} {g g' : Int} {p : Pat}, PatsOk acc → acc.length + l.length ≤ 10000001 → altsM grp n acc l g = .ok (p, t, g') → PatOk p
  | 0, acc, l, t, g, g', p, _, _, h => by cases h
  | n + 1, acc, l, t, g, g', p, A, hl, h => by
    simp only [altsM] at h
    split at h
    · rename_i hb
      have hb2 := bar_lt hb
      have hd : (l.drop 2).length = l.length - 2 := List.length_drop
      split at h
      · cases h
      · rename_i q u g1 hp
        have h1 := pieM_len L _ hp
        exact altsM_ok G L n (A.snoc (pieM_ok G L _ (show PatsOk [] from trivial) (by simp; omega) hp)) (by simp; omega) h
    · cases h; exact pAlt_ok A (by omega)
theorem altM_ok {grp : List Int → Int → PRes} (G : GP1 grp) (L : GL grp) {l t : List Int} {g g' : Int} {p : Pat} (hl : l.length ≤ 10000000) (h : altM grp l g = .ok (p, t, g')) : PatOk p := by
  unfold altM at h
  split at h
  · cases h
  · rename_i q u g1 hp
    have h1 := pieM_len L _ hp
    exact altsM_ok G L _ (show PatsOk [q] from ⟨pieM_ok G L _ (show PatsOk [] from trivial) (by simp; omega) hp, trivial⟩) (by simp; omega) h
theorem grpM_ok : ∀ k, GP1 (grpM k)
  | 0 => fun l g p t g' _ h => by cases h
  | k + 1 => fun l g p t g' hl h => by
    simp only [grpM] at h
    split at h
    · cases h
    · rename_i q u g1 ha
      split at h
      · cases h
      · cases h
        exact ⟨(fun e => by simp at e), by simp, altM_ok (grpM_ok k) (grpM_GL k) hl ha, trivial⟩
/-- A part's weight among the others. -/
def wgt (k lo hi : Int) (p : Pat) : Int := if k = 10 then sizeM p * kmax (kmax 1 lo) hi else sizeM p
mutual
theorem size_pos : ∀ (p : Pat), PatOk p → 1 ≤ sizeM p ∧ sizeM p ≤ 401
  | .mk k r s nt lo hi ps, h => by
    simp only [sizeM]
    simp only [PatOk] at h
    exact sizes_pos k lo hi h.1 ps h.2.2 1 (by omega) (by omega)
theorem sizes_pos (k lo hi : Int) (hk : k = 10 → lo ≤ 100 ∧ hi ≤ 100) : ∀ (ps : List Pat), PatsOk ps → ∀ n : Int, 1 ≤ n → n ≤ 401 → 1 ≤ sizesM k lo hi n ps ∧ sizesM k lo hi n ps ≤ 401
  | [], _, n, h1, h2 => by simp only [sizesM]; omega
  | p :: ps, h, n, h1, h2 => by
    simp only [sizesM]
    simp only [PatsOk] at h
    have hp := size_pos p h.1
    have hw : 1 ≤ (if k = 10 then sizeM p * kmax (kmax 1 lo) hi else sizeM p) := by
      split
      · rename_i e
        have := hk e
        have M1 := kmax_spec 1 lo
        have M2 := kmax_spec (kmax 1 lo) hi
        have : 1 * 1 ≤ sizeM p * kmax (kmax 1 lo) hi := Int.mul_le_mul (by omega) (by omega) (by omega) (by omega)
        omega
      · omega
    have M3 := kmin_spec (n + (if k = 10 then sizeM p * kmax (kmax 1 lo) hi else sizeM p)) 401
    exact sizes_pos k lo hi hk ps h.2 _ (by omega) (by omega)
end
theorem wgt_pos {k lo hi : Int} {p : Pat} (hk : k = 10 → lo ≤ 100 ∧ hi ≤ 100) (h : PatOk p) : 1 ≤ wgt k lo hi p ∧ wgt k lo hi p ≤ 40100 := by
  have hp := size_pos p h
  unfold wgt
  split
  · rename_i e
    have := hk e
    have M1 := kmax_spec 1 lo
    have M2 := kmax_spec (kmax 1 lo) hi
    have h1 : 1 * 1 ≤ sizeM p * kmax (kmax 1 lo) hi := Int.mul_le_mul (by omega) (by omega) (by omega) (by omega)
    have h2 : sizeM p * kmax (kmax 1 lo) hi ≤ 401 * 100 := Int.mul_le_mul (by omega) (by omega) (by omega) (by omega)
    omega
  · omega
theorem sizes_top (k lo hi : Int) (hk : k = 10 → lo ≤ 100 ∧ hi ≤ 100) : ∀ (ps : List Pat), PatsOk ps → sizesM k lo hi 401 ps = 401
  | [], _ => rfl
  | p :: ps, h => by
    simp only [sizesM]
    simp only [PatsOk] at h
    have := wgt_pos hk h.1
    unfold wgt at this
    have M3 := kmin_spec (401 + (if k = 10 then sizeM p * kmax (kmax 1 lo) hi else sizeM p)) 401
    rw [show kmin (401 + (if k = 10 then sizeM p * kmax (kmax 1 lo) hi else sizeM p)) 401 = 401 by omega]
    exact sizes_top k lo hi hk ps h.2
theorem PatsOk.at : ∀ {ps : List Pat} {i : Nat} {p : Pat}, PatsOk ps → ps[i]? = some p → PatOk p
  | [], i, p, _, e => by simp at e
  | q :: ps, 0, p, h, e => by simp at e; subst e; exact h.1
  | q :: ps, i + 1, p, h, e => by simp at e; exact PatsOk.at h.2 e
theorem PatsOk.drop : ∀ {ps : List Pat} {i : Nat}, PatsOk ps → PatsOk (ps.drop i)
  | [], i, h => by simp; trivial
  | q :: ps, 0, h => h
  | q :: ps, i + 1, h => by simpa using PatsOk.drop h.2
theorem pat_lt {k r lo hi : Int} {s : List (Int × Int)} {nt : Bool} {ps : List Pat} {i : Nat} {p : Pat} (h : ps[i]? = some p) : SizeOf.sizeOf p < SizeOf.sizeOf (Pat.mk k r s nt lo hi ps) := by
  have h1 := List.sizeOf_lt_of_mem (List.mem_of_getElem? h)
  simp only [Pat.mk.sizeOf_spec]
  omega
def boxV (P : Program) (h : Heap) (e : TypeId) (v : Value) : Option (Value × Heap) := match asz P e with | some _ => if v.cells.all one = true then some (.pointer (some ⟨h.size, 0, none⟩), h.new e v.cells.toList) else none | none => none
theorem aeff_box {P : Program} {h : Heap} {tm : Tm} {e : TypeId} {x : Operand} : aeff P tm h (.box e x) = boxV P h e (ev tm x) := rfl
theorem boxRe {h : Heap} {c : RC} (h1 : one c.sv = true) (h2 : one c.pv = true) : boxV prog h 26 (reV c) = some (.pointer (some ⟨h.size, 0, none⟩), h.new 26 (reC c)) := by
  unfold boxV
  rw [asz26]
  simp only [reV_one h1 h2, if_true, reV_cellsL]
/-- The program's reckoning. -/
theorem size_all : ∀ (m : Nat) (p : Pat) (c : RC) (h : Heap) (D : Nat → Prop), SizeOf.sizeOf p < m → PatOk p → ReR h D p c → ACalls prog 21 #[reV c] h (fun y h' => y = .int .i64 (sizeM p) ∧ Keeps h h')
  | 0, p, c, h, D, hm, _, _ => by omega
  | m + 1, p, c, h, D, hm, hok, P => by
    refine acalls_of_W' func21 rfl (by kernel_rfl) (by kernel_rfl) (by simp [ntmps21]) ?_
    intro H
    obtain ⟨k, r, set, nt, lo, hi, ps⟩ := p
    have P0 := P
    simp only [ReR] at P
    obtain ⟨p1, p2, p3, p4, p5, p6, p7, p8, l, PS, PR⟩ := P
    have N1 := Keeps.new H 26 (reC c)
    have V1 := Var.new (e := 26) H (cs := reC c)
    have hll := PR.len
    have LK : ∀ {hh : Heap}, Var hh h.size (reC c) → aload prog hh 3 ⟨h.size, 0, none⟩ = some (.int .i64 k) := fun V => by rw [← p1]; exact V.load1 (P := prog) (t := 3) underlying3 rfl (i := 0)
    have LLO : ∀ {hh : Heap}, Var hh h.size (reC c) → aload prog hh 3 ⟨h.size, 4, none⟩ = some (.int .i64 lo) := fun V => by rw [← p4]; exact V.load1 (P := prog) (t := 3) underlying3 rfl (i := 4)
    have LHI : ∀ {hh : Heap}, Var hh h.size (reC c) → aload prog hh 3 ⟨h.size, 5, none⟩ = some (.int .i64 hi) := fun V => by rw [← p5]; exact V.load1 (P := prog) (t := 3) underlying3 rfl (i := 5)
    have LPV : ∀ {hh : Heap}, Var hh h.size (reC c) → aload prog hh 24 ⟨h.size, 6, none⟩ = some c.pv := fun V => V.load1 (P := prog) (t := 24) underlying24 rfl (i := 6)
    have LNP := RS.len (RS.keeps PS N1) underlying24
    simp only [PatOk] at hok
    simp only [wk, wt, wl, ↓reduceIte, Nat.reduceEqDiff, Nat.reduceAdd, Nat.zero_add, not_false_eq_true, not_true_eq_false, pt, aeff_box, boxRe P0.one1.1 P0.one1.2, LPV V1, LNP]
    refine W_loop (fun tm hh => Keeps (h.new 26 (reC c)) hh ∧ tm 1 = pt h.size ∧ tm 8 = c.pv ∧ tm 9 = .int .i64 (l.length : Int) ∧ ∃ (i : Nat) (n : Int), tm 10 = .int .i64 (i : Int) ∧ tm 3 = .int .i64 n ∧ i ≤ l.length ∧ (i : Int) + 1 ≤ n ∧ n ≤ 400 ∧ sizesM k lo hi n (ps.drop i) = sizesM k lo hi 1 ps)
      (fun tm _ => (l.length - intOf (tm 10)).toNat) ⟨Keeps.refl (Ch.wf N1), (by first | rfl | (simp only [wk, wt, wl, ↓reduceIte, Nat.reduceEqDiff, Nat.reduceAdd, Nat.zero_add, not_false_eq_true, not_true_eq_false]; done) | (simp only [wk, wt, wl, ↓reduceIte, Nat.reduceEqDiff, Nat.reduceAdd, Nat.zero_add, not_false_eq_true, not_true_eq_false]; rfl) | (simp only [wk, wt, wl, ↓reduceIte, Nat.reduceEqDiff, Nat.reduceAdd, Nat.zero_add, not_false_eq_true, not_true_eq_false, pt]; done) | (simp only [wk, wt, wl, ↓reduceIte, Nat.reduceEqDiff, Nat.reduceAdd, Nat.zero_add, not_false_eq_true, not_true_eq_false, pt]; rfl)), (by first | rfl | (simp only [wk, wt, wl, ↓reduceIte, Nat.reduceEqDiff, Nat.reduceAdd, Nat.zero_add, not_false_eq_true, not_true_eq_false]; done) | (simp only [wk, wt, wl, ↓reduceIte, Nat.reduceEqDiff, Nat.reduceAdd, Nat.zero_add, not_false_eq_true, not_true_eq_false]; rfl)), (by first | rfl | (simp only [wk, wt, wl, ↓reduceIte, Nat.reduceEqDiff, Nat.reduceAdd, Nat.zero_add, not_false_eq_true, not_true_eq_false]; done) | (simp only [wk, wt, wl, ↓reduceIte, Nat.reduceEqDiff, Nat.reduceAdd, Nat.zero_add, not_false_eq_true, not_true_eq_false]; rfl)), 0, 1, (by first | rfl | (simp only [wk, wt, wl, ↓reduceIte, Nat.reduceEqDiff, Nat.reduceAdd, Nat.zero_add, not_false_eq_true, not_true_eq_false]; done) | (simp only [wk, wt, wl, ↓reduceIte, Nat.reduceEqDiff, Nat.reduceAdd, Nat.zero_add, not_false_eq_true, not_true_eq_false]; rfl)), (by first | rfl | (simp only [wk, wt, wl, ↓reduceIte, Nat.reduceEqDiff, Nat.reduceAdd, Nat.zero_add, not_false_eq_true, not_true_eq_false]; done) | (simp only [wk, wt, wl, ↓reduceIte, Nat.reduceEqDiff, Nat.reduceAdd, Nat.zero_add, not_false_eq_true, not_true_eq_false]; rfl)), by omega, by omega, by omega, rfl⟩ ?_
    rintro tm hh ⟨K, t1, t8, t9, i, n, t10, t3, hi1, hin, hn4, hR⟩
    simp only [wk, wt, wl, ↓reduceIte, Nat.reduceEqDiff, Nat.reduceAdd, Nat.zero_add, not_false_eq_true, not_true_eq_false, t1, t8, t9, t10, t3]
    refine condK_dec (fun hd => ?_) (fun hd => ?_)
    · have hi2 : i < l.length := by omega
      obtain ⟨p', hp'⟩ : ∃ p', ps[i]? = some p' := ⟨_, List.getElem?_eq_getElem (by omega)⟩
      have PRh := RePs.ch (N1.trans K) (fun _ e => e.elim) ps l PR
      have PSh : RS prog hh 7 reC c.pv l := RS.keeps PS (N1.trans K)
      obtain ⟨c', hc', Q⟩ := PRh.at hp'
      have IX := Rd.index PSh underlying24 asz26 (q := .i64) (i := (i : Int)) (by omega) (by omega)
      rw [Int.toNat_natCast] at IX
      have LX : aload prog hh 26 (eltA c.pv 7 i) = some (reV c') := RS.agg PSh reC_len underlying26 rfl asz26 hc'
      have Vh := Keeps.var (Ch.wf N1) K V1
      have hdr : ps.drop i = p' :: ps.drop (i + 1) := dropAt hp'
      have hok' := hok.2.2.at hp'
      have hsz' := size_pos p' hok'
      have N2 := Keeps.new (Ch.wf K) 26 (reC rc0)
      obtain ⟨h3, e3, V3, C3, z3⟩ := (Var.new (e := 26) (Ch.wf K) (cs := reC rc0)).put (Ch.wf N2) (d := c') Q.one1.1 Q.one1.2
      have K3 : Keeps hh h3 := N2.step C3 fun b e => by omega
      have Q3 := ReR.ch K3 (fun _ e => e.elim) _ _ Q
      have wi : IntKind.i64.wrap ((i : Int) + 1) = ((i + 1 : Nat) : Int) := by rw [IntWalk.i64_in _ (by omega)]; omega
      rw [hdr] at hR
      simp only [sizesM] at hR
      have hw := wgt_pos hok.1 hok'
      simp only [wk, wt, wl, ↓reduceIte, Nat.reduceEqDiff, Nat.reduceAdd, Nat.zero_add, not_false_eq_true, not_true_eq_false, pt, t1, t8, t9, t10, t3, newRe, newSz, IX, LX, e3, V3.re]
      refine (size_all m p' c' h3 D (by have := pat_lt (k := k) (r := r) (s := set) (nt := nt) (lo := lo) (hi := hi) hp'; omega) hok' Q3).use ?_
      rintro _ h4 ⟨rfl, K4⟩
      have V4 := Keeps.var (Ch.wf N1) ((K.trans K3).trans K4) V1
      have K04 := (K.trans K3).trans K4
      by_cases ck : k = 10
      · have d1 := decide_eq_true ck
        have hww : wgt k lo hi p' = sizeM p' * kmax (kmax 1 lo) hi := by unfold wgt; rw [if_pos ck]
        rw [hww] at hw
        rw [if_pos ck] at hR
        have w1 : IntKind.i64.wrap (sizeM p' * kmax (kmax 1 lo) hi) = sizeM p' * kmax (kmax 1 lo) hi := IntWalk.i64_in _ (by omega)
        have w2 : IntKind.i64.wrap (n + sizeM p' * kmax (kmax 1 lo) hi) = n + sizeM p' * kmax (kmax 1 lo) hi := IntWalk.i64_in _ (by omega)
        by_cases c4 : 400 < n + (sizeM p' * kmax (kmax 1 lo) hi)
        · have d4 := decide_eq_true c4
          simp only [wk, wt, wl, ↓reduceIte, Nat.reduceEqDiff, Nat.reduceAdd, Nat.zero_add, not_false_eq_true, not_true_eq_false, pt, t1, t8, t9, t10, t3, LK V4, LLO V4, LHI V4, d1, mxV3, w1, w2, d4]
          have M3 := kmin_spec (n + (sizeM p' * kmax (kmax 1 lo) hi)) 401
          rw [show kmin (n + (sizeM p' * kmax (kmax 1 lo) hi)) 401 = 401 by omega, sizes_top k lo hi hok.1 _ hok.2.2.drop] at hR
          exact ⟨by simp only [sizeM]; rw [← hR], N1.trans K04⟩
        · have d4 := decide_eq_false c4
          have M3 := kmin_spec (n + (sizeM p' * kmax (kmax 1 lo) hi)) 401
          rw [show kmin (n + (sizeM p' * kmax (kmax 1 lo) hi)) 401 = n + (sizeM p' * kmax (kmax 1 lo) hi) by omega] at hR
          simp only [wk, wt, wl, ↓reduceIte, Nat.reduceEqDiff, Nat.reduceAdd, Nat.zero_add, not_false_eq_true, not_true_eq_false, pt, t1, t8, t9, t10, t3, LK V4, LLO V4, LHI V4, d1, mxV3, w1, w2, d4, wi, intOf_int]
          exact ⟨⟨K04, i + 1, _, rfl, rfl, by omega, by omega, by omega, hR⟩, by omega⟩
      · have d1 := decide_eq_false ck
        have hww : wgt k lo hi p' = sizeM p' := by unfold wgt; rw [if_neg ck]
        rw [hww] at hw
        rw [if_neg ck] at hR
        have w2 : IntKind.i64.wrap (n + sizeM p') = n + sizeM p' := IntWalk.i64_in _ (by omega)
        by_cases c4 : 400 < n + (sizeM p')
        · have d4 := decide_eq_true c4
          simp only [wk, wt, wl, ↓reduceIte, Nat.reduceEqDiff, Nat.reduceAdd, Nat.zero_add, not_false_eq_true, not_true_eq_false, pt, t1, t8, t9, t10, t3, LK V4, d1, w2, d4]
          have M3 := kmin_spec (n + (sizeM p')) 401
          rw [show kmin (n + (sizeM p')) 401 = 401 by omega, sizes_top k lo hi hok.1 _ hok.2.2.drop] at hR
          exact ⟨by simp only [sizeM]; rw [← hR], N1.trans K04⟩
        · have d4 := decide_eq_false c4
          have M3 := kmin_spec (n + (sizeM p')) 401
          rw [show kmin (n + (sizeM p')) 401 = n + (sizeM p') by omega] at hR
          simp only [wk, wt, wl, ↓reduceIte, Nat.reduceEqDiff, Nat.reduceAdd, Nat.zero_add, not_false_eq_true, not_true_eq_false, pt, t1, t8, t9, t10, t3, LK V4, d1, w2, d4, wi, intOf_int]
          exact ⟨⟨K04, i + 1, _, rfl, rfl, by omega, by omega, by omega, hR⟩, by omega⟩
    · have : i = ps.length := by omega
      rw [this, List.drop_length] at hR
      simp only [sizesM] at hR
      simp only [wk, wt, wl, ↓reduceIte, Nat.reduceEqDiff, Nat.reduceAdd, Nat.zero_add, not_false_eq_true, not_true_eq_false, t3]
      exact ⟨by rw [hR]; simp only [sizeM], N1.trans K⟩
end Go.Proofs.Ytnnkcbkenofhmaa.Am
end
