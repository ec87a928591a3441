/- Patterns in plain terms: which parts a pattern has; no program in sight. -/
import Derived.Test.YtnnkcbkenofhmaaAmRecs
import Derived.Test.YtnnkcbkenofhmaaAmDefer
import Derived.Test.YtnnkcbkenofhmaaAmF
set_option linter.unusedSimpArgs false
set_option linter.unusedVariables false
namespace Go.Proofs.Ytnnkcbkenofhmaa.Am
open Go Go.RowKit Go.Proofs.Try
def kmax (x y : Int) : Int := if x < y then y else x
def kmin (x y : Int) : Int := if y < x then y else x
theorem kmax_spec (x y : Int) : x ≤ kmax x y ∧ y ≤ kmax x y ∧ (kmax x y = x ∨ kmax x y = y) := by unfold kmax; split <;> omega
theorem kmin_spec (x y : Int) : kmin x y ≤ x ∧ kmin x y ≤ y ∧ (kmin x y = x ∨ kmin x y = y) := by unfold kmin; split <;> omega
/-- A part of a pattern. -/
inductive Pat where
  | mk (k r : Int) (set : List (Int × Int)) (nt : Bool) (lo hi : Int) (ps : List Pat)
def Pat.kind : Pat → Int
  | .mk k _ _ _ _ _ _ => k
def pE : Pat := .mk 0 0 [] false 0 0 []
def pK (k : Int) : Pat := .mk k 0 [] false 0 0 []
def pR (r : Int) : Pat := .mk 1 r [] false 0 0 []
def pS (s : List (Int × Int)) (nt : Bool) : Pat := .mk 3 0 s nt 0 0 []
def pStar (lo hi : Int) (p : Pat) : Pat := .mk 10 0 [] false lo hi [p]
def pG (n : Int) (p : Pat) : Pat := .mk 11 0 [] false n 0 [p]
def pCat (l : List Pat) : Pat := match l with
  | [] => pE
  | [x] => x
  | l => .mk 8 0 [] false 0 0 l
def pAlt (l : List Pat) : Pat := match l with
  | [x] => x
  | l => .mk 9 0 [] false 0 0 l
/-- The rune at the beginning, the one behind it where it is a backslash, and how many these are. -/
def peekM (l : List Int) : Int × Int × Int := match l with
  | [] => (0, 0, 0)
  | [x] => (x, 0, 1)
  | x :: y :: _ => if x = 92 then (92, y, 2) else (x, 0, 1)
def endedM (l : List Int) : Bool := match l with
  | [] => true
  | x :: y :: _ => decide (x = 92 ∧ (y = 124 ∨ y = 41))
  | _ => false
def findM : List Int → Option Nat
  | [] => none
  | x :: l => if x = 93 then some 0 else (findM l).map (· + 1)
def spansM : Nat → List (Int × Int) → List Int → Except Int (List (Int × Int))
  | 0, _, _ => .error 0
  | n + 1, acc, l => match l with
    | [] => .ok acc
    | x :: 45 :: z :: t => if z < x then .error 5 else spansM n (acc ++ [(x, z)]) t
    | x :: t => spansM n (acc ++ [(x, x)]) t
/-- Behind the bracket of a set. -/
def setM (l : List Int) : Except Int (Pat × List Int) :=
  let nt := decide (l.head? = some 94)
  let l := if nt = true then l.tail else l
  match findM (l.drop 1) with
  | none => .error 10
  | some i => match spansM (i + 2) [] (l.take (i + 1)) with
    | .error e => .error e
    | .ok s => .ok (pS s nt, l.drop (i + 2))
def digM : Int → Bool → List Int → Int × List Int × Bool
  | n, ok, [] => (n, [], ok)
  | n, ok, x :: l => if 48 ≤ x ∧ x ≤ 57 then digM (kmin (n * 10 + (x - 48)) 101) true l else (n, x :: l, ok)
/-- The second count, if there is one. -/
def hiM (lo : Int) (l : List Int) : Int × List Int :=
  if l.head? = some 44 then (if (digM 0 false l.tail).2.2 = true then (digM 0 false l.tail).1 else -1, (digM 0 false l.tail).2.1) else (lo, l)
def endM (lo hi : Int) (l : List Int) : Except Int (Int × Int × List Int) := match l with
  | 92 :: 125 :: t => .ok (lo, hi, t)
  | _ => .error 10
/-- A repetition's counts, behind its bracket. -/
def timesM (l : List Int) : Except Int (Int × Int × List Int) :=
  if (digM 0 false l).2.2 = false then .error 11
  else if 100 < kmax (digM 0 false l).1 (hiM (digM 0 false l).1 (digM 0 false l).2.1).1 ∨ (0 ≤ (hiM (digM 0 false l).1 (digM 0 false l).2.1).1 ∧ (hiM (digM 0 false l).1 (digM 0 false l).2.1).1 < (digM 0 false l).1) then .error 11
  else endM (digM 0 false l).1 (hiM (digM 0 false l).1 (digM 0 false l).2.1).1 (hiM (digM 0 false l).1 (digM 0 false l).2.1).2
/-- A repetition, if there is one, of what is ahead. -/
def repM (p : Pat) (l : List Int) : Except Int (Option (Pat × List Int)) :=
  match peekM l with
  | (x, y, n) => if n = 1 ∧ x = 42 then .ok (some (pStar 0 (-1) p, l.drop 1))
    else if n < 2 ∨ y ≠ 123 then .ok none
    else match timesM (l.drop 2) with
      | .error e => .error e
      | .ok (lo, hi, t) => .ok (some (pStar lo hi p, t))
def repsM : Nat → Pat → List Int → Except Int (Pat × List Int)
  | 0, _, _ => .error 0
  | n + 1, p, l => if p.kind = 4 then .ok (p, l) else match repM p l with
    | .error e => .error e
    | .ok none => .ok (p, l)
    | .ok (some (q, t)) => repsM n q t
abbrev PRes := Except Int (Pat × List Int × Int)
def escM (grp : List Int → Int → PRes) (y : Int) (l : List Int) (g : Int) : PRes :=
  if y = 125 then .error 10
  else if y = 123 then .error 11
  else if y = 60 then .ok (pK 6, l.drop 2, g)
  else if y = 62 then .ok (pK 7, l.drop 2, g)
  else if y = 40 then grp (l.drop 2) g
  else .ok (pR y, l.drop 2, g)
def atomM (grp : List Int → Int → PRes) (first : Bool) (l : List Int) (g : Int) : PRes :=
  match peekM l with
  | (x, y, n) =>
    if x = 91 then (match setM (l.drop 1) with | .error e => .error e | .ok (p, t) => .ok (p, t, g))
    else if n = 2 then escM grp y l g
    else if x = 92 then .error 5
    else if x = 46 then .ok (pK 2, l.drop 1, g)
    else if x = 94 ∧ first = true then .ok (pK 4, l.drop 1, g)
    else if x = 36 ∧ endedM (l.drop 1) = true then .ok (pK 5, l.drop 1, g)
    else .ok (pR x, l.drop 1, g)
def pieM (grp : List Int → Int → PRes) : Nat → List Pat → List Int → Int → PRes
  | 0, _, _, _ => .error 0
  | n + 1, acc, l, g => if endedM l = true then .ok (pCat acc, l, g) else
    match atomM grp acc.isEmpty l g with
    | .error e => .error e
    | .ok (p, t, g') => match repsM (t.length + 1) p t with
      | .error e => .error e
      | .ok (q, u) => pieM grp n (acc ++ [q]) u g'
def barM (l : List Int) : Bool := match l with
  | x :: y :: _ => decide (x = 92 ∧ y = 124)
  | _ => false
def altsM (grp : List Int → Int → PRes) : Nat → List Pat → List Int → Int → PRes
  | 0, _, _, _ => .error 0
  | n + 1, acc, l, g => if barM l = true then (match pieM grp ((l.drop 2).length + 1) [] (l.drop 2) g with
      | .error e => .error e
      | .ok (p, t, g') => altsM grp n (acc ++ [p]) t g')
    else .ok (pAlt acc, l, g)
def altM (grp : List Int → Int → PRes) (l : List Int) (g : Int) : PRes :=
  match pieM grp (l.length + 1) [] l g with
  | .error e => .error e
  | .ok (p, t, g') => altsM grp (t.length + 1) [p] t g'
/-- A group, behind its bracket; so many more may be one within the other. -/
def grpM : Nat → List Int → Int → PRes
  | 0, _, _ => .error 12
  | k + 1, l, g => match altM (grpM k) l (g + 1) with
    | .error e => .error e
    | .ok (p, t, g') => if t.length = 0 then .error 10 else .ok (pG (g + 1) p, t.drop 2, g')
mutual
def sizeM : Pat → Int
  | .mk k _ _ _ lo hi ps => sizesM k lo hi 1 ps
def sizesM (k lo hi : Int) : Int → List Pat → Int
  | n, [] => n
  | n, p :: ps => sizesM k lo hi (kmin (n + (if k = 10 then sizeM p * kmax (kmax 1 lo) hi else sizeM p)) 401) ps
end
def parseM (l : List Int) : Except Int Pat :=
  match altM (grpM 16) l 0 with
  | .error e => .error e
  | .ok (p, t, _) => if 0 < t.length then .error 10 else if 400 < sizeM p then .error 12 else .ok p
mutual
def cntM : Pat → Int
  | .mk k _ _ _ _ _ ps => cntsM (if k = 11 then 1 else 0) ps
def cntsM : Int → List Pat → Int
  | n, [] => n
  | n, p :: ps => cntsM (n + cntM p) ps
end
example : parseM [97, 98, 42] = .ok (.mk 8 0 [] false 0 0 [pR 97, pStar 0 (-1) (pR 98)]) := by rfl
example : parseM [97, 92, 123, 50] = .error 10 := by rfl
example : parseM [92, 123, 50, 92, 125] = .error 11 := by rfl
end Go.Proofs.Ytnnkcbkenofhmaa.Am
