/- Patterns in memory: parts, the program's reader; what is laid and built. -/
import Derived.Test.YtnnkcbkenofhmaaKa
set_option linter.unusedSimpArgs false
set_option linter.unusedVariables false
set_option maxHeartbeats 4000000
set_option maxRecDepth 20000
namespace Go.Proofs.Ytnnkcbkenofhmaa.Am
open Go Go.RowKit Go.Proofs.Try
def intOf : Value → Int
  | .int _ x => x
  | _ => 0
theorem intOf_int {k : IntKind} {x : Int} : intOf (.int k x) = x := rfl
def pt (b : Nat) : Value := .pointer (some ⟨b, 0, none⟩)
theorem mxV {k : IntKind} {ts : Array TypeId} {x y : Int} : abuiltin prog .max ts #[.int k x, .int k y] = some (.int k (kmax x y)) := by simp [abuiltin, amm, kmax]
theorem mnV {k : IntKind} {ts : Array TypeId} {x y : Int} : abuiltin prog .min ts #[.int k x, .int k y] = some (.int k (kmin x y)) := by simp [abuiltin, amm, kmin]
theorem mxV3 {k : IntKind} {ts : Array TypeId} {x y z : Int} : abuiltin prog .max ts #[.int k x, .int k y, .int k z] = some (.int k (kmax (kmax x y) z)) := by simp [abuiltin, amm]; rfl
theorem dropAt {α : Type} {us : List α} {j : Nat} {u : α} (h : us[j]? = some u) : us.drop j = u :: us.drop (j + 1) := by
  obtain ⟨hj, e⟩ := List.getElem?_eq_some_iff.1 h
  rw [List.drop_eq_getElem_cons hj, e]
/-- A part's cells. -/
structure RC where
  k : Int
  r : Int
  sv : Value
  nt : Bool
  lo : Int
  hi : Int
  pv : Value
def reC (x : RC) : List Value := [.int .i64 x.k, .int .i32 x.r, x.sv, .bool x.nt, .int .i64 x.lo, .int .i64 x.hi, x.pv]
def reV (x : RC) : Value := .agg (reC x).toArray
def spC (x : Int × Int) : List Value := [.int .i64 x.1, .int .i64 x.2]
theorem reC_len (x : RC) : (reC x).length = 7 := rfl
theorem spC_len (x : Int × Int) : (spC x).length = 2 := rfl
def nilS : Value := .slice none 0 0
def rc0 : RC := ⟨0, 0, nilS, false, 0, 0, nilS⟩
mutual
/-- A part lies there; blocks that D tells hold nothing of it. -/
def ReR (h : Heap) (D : Nat → Prop) : Pat → RC → Prop
  | .mk k r set nt lo hi ps, c => c.k = k ∧ c.r = r ∧ c.nt = nt ∧ c.lo = lo ∧ c.hi = hi ∧ RS prog h 2 spC c.sv set ∧ (∀ b, blkOf c.sv = some b → ¬ D b) ∧ (∀ b, blkOf c.pv = some b → ¬ D b) ∧ ∃ l : List RC, RS prog h 7 reC c.pv l ∧ RePs h D ps l
def RePs (h : Heap) (D : Nat → Prop) : List Pat → List RC → Prop
  | [], l => l = []
  | p :: ps, l => ∃ c d, l = c :: d ∧ ReR h D p c ∧ RePs h D ps d
end
section
variable {h h' : Heap} {D E : Nat → Prop}
mutual
theorem ReR.ch (C : Ch E h h') (hd : ∀ b, E b → D b) : ∀ (p : Pat) (c : RC), ReR h D p c → ReR h' D p c
  | .mk k r set nt lo hi ps, c, R => by
    simp only [ReR] at R ⊢
    obtain ⟨a1, a2, a3, a4, a5, a6, a7, a8, l, a9, a10⟩ := R
    exact ⟨a1, a2, a3, a4, a5, Ch.rd C a6 fun b e x => a7 b e (hd b x), a7, a8, l, Ch.rd C a9 fun b e x => a8 b e (hd b x), RePs.ch C hd ps l a10⟩
theorem RePs.ch (C : Ch E h h') (hd : ∀ b, E b → D b) : ∀ (ps : List Pat) (l : List RC), RePs h D ps l → RePs h' D ps l
  | [], l, R => by simp only [RePs] at R ⊢; exact R
  | p :: ps, l, R => by
    simp only [RePs] at R ⊢
    obtain ⟨c, d, e, r1, r2⟩ := R
    exact ⟨c, d, e, ReR.ch C hd p c r1, RePs.ch C hd ps d r2⟩
end
mutual
/-- The same: what is new is not looked at. -/
theorem ReR.chN (C : Ch E h h') (hd : ∀ b, E b → D b ∨ h.size ≤ b) : ∀ (p : Pat) (c : RC), ReR h D p c → ReR h' D p c
  | .mk k r set nt lo hi ps, c, R => by
    simp only [ReR] at R ⊢
    obtain ⟨a1, a2, a3, a4, a5, a6, a7, a8, l, a9, a10⟩ := R
    exact ⟨a1, a2, a3, a4, a5, Ch.rd C a6 fun b e x => (hd b x).elim (a7 b e) (fun q => by have := (Rd.blk_lt a6 e).1; omega), a7, a8, l, Ch.rd C a9 fun b e x => (hd b x).elim (a8 b e) (fun q => by have := (Rd.blk_lt a9 e).1; omega), RePs.chN C hd ps l a10⟩
theorem RePs.chN (C : Ch E h h') (hd : ∀ b, E b → D b ∨ h.size ≤ b) : ∀ (ps : List Pat) (l : List RC), RePs h D ps l → RePs h' D ps l
  | [], l, R => by simp only [RePs] at R ⊢; exact R
  | p :: ps, l, R => by
    simp only [RePs] at R ⊢
    obtain ⟨c, d, e, r1, r2⟩ := R
    exact ⟨c, d, e, ReR.chN C hd p c r1, RePs.chN C hd ps d r2⟩
end
mutual
/-- Blocks that are not there yet hold nothing of it. -/
theorem ReR.up (hd : ∀ b, E b → D b ∨ h.size ≤ b) : ∀ (p : Pat) (c : RC), ReR h D p c → ReR h E p c
  | .mk k r set nt lo hi ps, c, R => by
    simp only [ReR] at R ⊢
    obtain ⟨a1, a2, a3, a4, a5, a6, a7, a8, l, a9, a10⟩ := R
    exact ⟨a1, a2, a3, a4, a5, a6, fun b e x => (hd b x).elim (a7 b e) (fun q => by have := (Rd.blk_lt a6 e).1; omega), fun b e x => (hd b x).elim (a8 b e) (fun q => by have := (Rd.blk_lt a9 e).1; omega), l, a9, RePs.up hd ps l a10⟩
theorem RePs.up (hd : ∀ b, E b → D b ∨ h.size ≤ b) : ∀ (ps : List Pat) (l : List RC), RePs h D ps l → RePs h E ps l
  | [], l, R => by simp only [RePs] at R ⊢; exact R
  | p :: ps, l, R => by
    simp only [RePs] at R ⊢
    obtain ⟨c, d, e, r1, r2⟩ := R
    exact ⟨c, d, e, ReR.up hd p c r1, RePs.up hd ps d r2⟩
end
mutual
theorem ReR.reads (K : Reads h h') (hs : h.size ≤ h'.size) : ∀ (p : Pat) (c : RC), ReR h D p c → ReR h' D p c
  | .mk k r set nt lo hi ps, c, R => by
    simp only [ReR] at R ⊢
    obtain ⟨a1, a2, a3, a4, a5, a6, a7, a8, l, a9, a10⟩ := R
    exact ⟨a1, a2, a3, a4, a5, Rd.reads a6 hs K, a7, a8, l, Rd.reads a9 hs K, RePs.reads K hs ps l a10⟩
theorem RePs.reads (K : Reads h h') (hs : h.size ≤ h'.size) : ∀ (ps : List Pat) (l : List RC), RePs h D ps l → RePs h' D ps l
  | [], l, R => by simp only [RePs] at R ⊢; exact R
  | p :: ps, l, R => by
    simp only [RePs] at R ⊢
    obtain ⟨c, d, e, r1, r2⟩ := R
    exact ⟨c, d, e, ReR.reads K hs p c r1, RePs.reads K hs ps d r2⟩
end
mutual
theorem ReR.weak (hd : ∀ b, E b → D b) : ∀ (p : Pat) (c : RC), ReR h D p c → ReR h E p c
  | .mk k r set nt lo hi ps, c, R => by
    simp only [ReR] at R ⊢
    obtain ⟨a1, a2, a3, a4, a5, a6, a7, a8, l, a9, a10⟩ := R
    exact ⟨a1, a2, a3, a4, a5, a6, fun b e x => a7 b e (hd b x), fun b e x => a8 b e (hd b x), l, a9, RePs.weak hd ps l a10⟩
theorem RePs.weak (hd : ∀ b, E b → D b) : ∀ (ps : List Pat) (l : List RC), RePs h D ps l → RePs h E ps l
  | [], l, R => by simp only [RePs] at R ⊢; exact R
  | p :: ps, l, R => by
    simp only [RePs] at R ⊢
    obtain ⟨c, d, e, r1, r2⟩ := R
    exact ⟨c, d, e, ReR.weak hd p c r1, RePs.weak hd ps d r2⟩
end
theorem RePs.snoc : ∀ {ps : List Pat} {l : List RC} {p : Pat} {c : RC}, RePs h D ps l → ReR h D p c → RePs h D (ps ++ [p]) (l ++ [c])
  | [], l, p, c, R, S => by
    simp only [RePs] at R
    subst R
    exact ⟨c, [], rfl, S, rfl⟩
  | q :: ps, l, p, c, R, S => by
    simp only [RePs] at R
    obtain ⟨x, d, rfl, r1, r2⟩ := R
    exact ⟨x, d ++ [c], rfl, r1, RePs.snoc r2 S⟩
theorem RePs.len : ∀ {ps : List Pat} {l : List RC}, RePs h D ps l → l.length = ps.length
  | [], l, R => by simp only [RePs] at R; subst R; rfl
  | p :: ps, l, R => by
    simp only [RePs] at R
    obtain ⟨c, d, rfl, _, r2⟩ := R
    simp [RePs.len r2]
theorem RePs.at : ∀ {ps : List Pat} {l : List RC} {i : Nat} {p : Pat}, RePs h D ps l → ps[i]? = some p → ∃ c, l[i]? = some c ∧ ReR h D p c
  | [], l, i, p, R, e => by simp at e
  | q :: ps, l, i, p, R, e => by
    simp only [RePs] at R
    obtain ⟨c, d, rfl, r1, r2⟩ := R
    cases i with
    | zero => simp at e; subst e; exact ⟨c, rfl, r1⟩
    | succ i => simp at e; obtain ⟨x, hx, hr⟩ := RePs.at r2 e; exact ⟨x, by simpa using hx, hr⟩
theorem RePs.one {c : RC} {p : Pat} (R : ReR h D p c) : RePs h D [p] [c] := ⟨c, [], rfl, R, rfl⟩
theorem nil_av {b : Nat} : blkOf nilS = some b → ¬ D b := fun e => by cases e
theorem RS.nil {s : Nat} {α : Type} {f : α → List Value} : RS prog h s f nilS ([] : List α) := Rd.nil0
theorem ReR.one1 {p : Pat} {c : RC} (R : ReR h D p c) : one c.sv = true ∧ one c.pv = true := by
  obtain ⟨k, r, set, nt, lo, hi, ps⟩ := p
  simp only [ReR] at R
  obtain ⟨a1, a2, a3, a4, a5, a6, a7, a8, l, a9, a10⟩ := R
  exact ⟨Rd.one a6, Rd.one a9⟩
theorem ReR.kind {p : Pat} {c : RC} (R : ReR h D p c) : c.k = p.kind := by
  obtain ⟨k, r, set, nt, lo, hi, ps⟩ := p
  simp only [ReR] at R
  exact R.1
/-- Parts without others. -/
theorem ReR.k {k : Int} : ReR h D (pK k) { rc0 with k := k } := by
  exact ⟨rfl, rfl, rfl, rfl, rfl, RS.nil, (fun _ e => by cases e), (fun _ e => by cases e), [], RS.nil, rfl⟩
theorem ReR.r {r : Int} : ReR h D (pR r) { rc0 with k := 1, r := r } := by
  exact ⟨rfl, rfl, rfl, rfl, rfl, RS.nil, (fun _ e => by cases e), (fun _ e => by cases e), [], RS.nil, rfl⟩
theorem ReR.e : ReR h D pE rc0 := by
  exact ⟨rfl, rfl, rfl, rfl, rfl, RS.nil, (fun _ e => by cases e), (fun _ e => by cases e), [], RS.nil, rfl⟩
/-- A part of parts. -/
theorem ReR.ps {k lo hi : Int} {ps : List Pat} {l : List RC} {pv : Value} (S : RS prog h 7 reC pv l) (hp : ∀ b, blkOf pv = some b → ¬ D b) (R : RePs h D ps l) : ReR h D (.mk k 0 [] false lo hi ps) { rc0 with k := k, lo := lo, hi := hi, pv := pv } := by
  exact ⟨rfl, rfl, rfl, rfl, rfl, RS.nil, (fun _ e => by cases e), hp, l, S, R⟩
end
theorem reV_cells {x : RC} : (reV x).cells = (reC x).toArray := rfl
theorem reV_cellsL {x : RC} : (reV x).cells.toList = reC x := rfl
theorem reV_one {x : RC} (h1 : one x.sv = true) (h2 : one x.pv = true) : (reV x).cells.all one = true := by
  rw [reV_cells]; simp [reC, h1, h2, one_int, one_bool]
theorem azRe : azero prog 26 = some (reV rc0) := azero26
theorem newRe {h : Heap} : h.new 26 [.int .i64 0, .int .i32 0, .slice none 0 0, .bool false, .int .i64 0, .int .i64 0, .slice none 0 0] = h.new 26 (reC rc0) := congrArg (h.new 26) (show _ = reC rc0 from rfl)
theorem newSz {h : Heap} {e : TypeId} {cs : List Value} : (h.new e cs).size = h.size + 1 := by have := new_size (h := h) (e := e) (cs := cs); omega
/-- What a variable of a part holds. -/
theorem Var.re {h : Heap} {b : Nat} {c : RC} (V : Var h b (reC c)) : aload prog h 26 ⟨b, 0, none⟩ = some (reV c) := V.loadA (P := prog) (t := 26) underlying26 rfl asz26
/-- A part is put into a variable. -/
theorem Var.put {h : Heap} {b : Nat} {c : RC} (V : Var h b (reC c)) (H : Wf h) {d : RC} (h1 : one d.sv = true) (h2 : one d.pv = true) :
    ∃ h', storeV prog h 26 (.pointer (some ⟨b, 0, none⟩)) (reV d) = some (undef, h') ∧ Var h' b (reC d) ∧ Ch (fun x => x = b) h h' ∧ h'.size = h.size := by
  obtain ⟨h9, e9, V9, r⟩ := V.store (P := prog) (t := 26) (v := reV d) (i := 0) H asz26 (by rw [reV_cells]; simp [reC]) (reV_one h1 h2)
  rw [reV_cellsL, over_all (by rfl)] at V9
  exact ⟨h9, e9, V9, r⟩
theorem bsRe {h : Heap} {c : RC} (h1 : one c.sv = true) (h2 : one c.pv = true) : abuildSlice prog h 24 1 #[(0, reV c)] = some (.slice (some ⟨h.size, 0, none⟩) 1 2, h.new 26 (reC c)) :=
  buildA7 underlying24 asz26 azRe rfl rfl rfl h1 rfl rfl rfl h2
theorem build_re0 : abuild prog 26 #[] = some (reV rc0) := by simp [abuild, wt, aplaces, Instr.fill, Value.cells]; rfl
theorem build_rek {k : Int} : abuild prog 26 #[(0, .int .i64 k)] = some (reV { rc0 with k := k }) := by simp [abuild, wt, aplaces, Instr.fill, Value.cells]; rfl
theorem build_rer {k r : Int} : abuild prog 26 #[(0, .int .i64 k), (1, .int .i32 r)] = some (reV { rc0 with k := k, r := r }) := by simp [abuild, wt, aplaces, Instr.fill, Value.cells]; rfl
theorem build_relo {k lo : Int} : abuild prog 26 #[(0, .int .i64 k), (4, .int .i64 lo)] = some (reV { rc0 with k := k, lo := lo }) := by simp [abuild, wt, aplaces, Instr.fill, Value.cells]; rfl
theorem build_rep {k : Int} {pv : Value} (h1 : one pv = true) : abuild prog 26 #[(0, .int .i64 k), (6, pv)] = some (reV { rc0 with k := k, pv := pv }) := by simp [abuild, wt, aplaces, Instr.fill, one_cells h1, h1]; rfl
theorem build_rehp {k hi : Int} {pv : Value} (h1 : one pv = true) : abuild prog 26 #[(0, .int .i64 k), (5, .int .i64 hi), (6, pv)] = some (reV { rc0 with k := k, hi := hi, pv := pv }) := by simp [abuild, wt, aplaces, Instr.fill, one_cells h1, h1]; rfl
theorem build_relhp {k lo hi : Int} {pv : Value} (h1 : one pv = true) : abuild prog 26 #[(0, .int .i64 k), (4, .int .i64 lo), (5, .int .i64 hi), (6, pv)] = some (reV { rc0 with k := k, lo := lo, hi := hi, pv := pv }) := by simp [abuild, wt, aplaces, Instr.fill, one_cells h1, h1]; rfl
theorem build_relp {k lo : Int} {pv : Value} (h1 : one pv = true) : abuild prog 26 #[(0, .int .i64 k), (4, .int .i64 lo), (6, pv)] = some (reV { rc0 with k := k, lo := lo, pv := pv }) := by simp [abuild, wt, aplaces, Instr.fill, one_cells h1, h1]; rfl
theorem build_fault {e : Int} : abuild prog 42 #[(0, .int .i64 e)] = some (.agg #[.int .i64 e]) := by simp [abuild, wt, aplaces, Instr.fill, Value.cells]
theorem conc_fault : prog.concrete 42 = true := by kernel_rfl
/-- What the reader gives up with. -/
def flt (e : Int) : Value := .iface 42 (.agg #[.int .i64 e])
/-- The program's reader: what is left (of the row of block pb), how many groups there were, how many are open. -/
def RD (h : Heap) (rb pb : Nat) (l : List Int) (g o : Int) : Prop := ∃ rv, Var h rb [rv, .int .i64 g, .int .i64 o] ∧ RdI prog h .i32 rv l ∧ (∀ b, blkOf rv = some b → b = pb) ∧ pb ≠ rb ∧ pb < h.size
abbrev Bx (rb : Nat) : Nat → Prop := fun b => b = rb
abbrev Lt (m : Nat) : Nat → Prop := fun b => b < m
theorem RD.ch {h h' : Heap} {rb pb : Nat} {l : List Int} {g o : Int} {D : Nat → Prop} (R : RD h rb pb l g o) (H : Wf h) (C : Ch D h h') (h1 : ¬ D rb) (h2 : ¬ D pb) : RD h' rb pb l g o := by
  obtain ⟨rv, V, S, hb, e1, e2⟩ := R
  exact ⟨rv, Ch.var H C V h1, Ch.rd C S fun b e f => h2 (by rw [← hb b e]; exact f), hb, e1, Nat.lt_of_lt_of_le e2 (Ch.le C)⟩
theorem RD.keeps {h h' : Heap} {rb pb : Nat} {l : List Int} {g o : Int} (R : RD h rb pb l g o) (H : Wf h) (K : Keeps h h') : RD h' rb pb l g o := R.ch H K id id
theorem RD.lt {h : Heap} {rb pb : Nat} {l : List Int} {g o : Int} (R : RD h rb pb l g o) (H : Wf h) : rb < h.size ∧ pb < h.size ∧ pb ≠ rb := by
  obtain ⟨rv, V, _, _, e1, e2⟩ := R; exact ⟨V.lt H, e2, e1⟩
/-- How much is left. -/
def restN (rb : Nat) (h : Heap) : Nat := match h.get rb with | some k => (match k.cells with | .slice _ n _ :: _ => n | _ => 0) | none => 0
theorem Rd.num {h : Heap} {s n : Nat} {v : Value} {cs : List Value} (R : Rd prog h s v n cs) : ∃ a c, v = .slice a n c := by
  obtain ⟨_, ⟨rfl, rfl | rfl⟩ | ⟨b, o, c, k, rfl, _⟩⟩ := R
  · exact ⟨_, _, rfl⟩
  · exact ⟨_, _, rfl⟩
  · exact ⟨_, _, rfl⟩
theorem RD.num {h : Heap} {rb pb : Nat} {l : List Int} {g o : Int} (R : RD h rb pb l g o) : restN rb h = l.length := by
  obtain ⟨rv, ⟨k, h1, h2, _⟩, S, _⟩ := R
  obtain ⟨a, c, rfl⟩ := Rd.num S
  simp [restN, h1, h2]
theorem aops_mono {P : Program} {all : Array Oper} {Q Q' : Exit → Tm → Heap → Prop} (hq : ∀ e tm h, Q e tm h → Q' e tm h) : ∀ (l : List Oper) (tm : Tm) (h : Heap), aops P all Q l tm h → aops P all Q' l tm h
  | [], tm, h, H => hq _ _ _ H
  | o :: l, tm, h, H => gate_mono (fun hs => stepV_mono hs (fun v h' => aops_mono hq l _ _) (fun v h' => hq _ _ _)) (aops_mono hq l _ _) H
theorem thenK_mono {K K' : Tm → Heap → Prop} {Q Q' : Exit → Tm → Heap → Prop} (hk : ∀ tm h, K tm h → K' tm h) (hq : ∀ e tm h, Q e tm h → Q' e tm h) : ∀ e tm h, thenK K Q e tm h → thenK K' Q' e tm h := fun e tm h H => by
  cases e <;> first | exact hk _ _ H | exact hq _ _ _ H
theorem W_mono {P : Program} {n : Nat} : ∀ (c : Code) {Q Q' : Exit → Tm → Heap → Prop} (hq : ∀ e tm h, Q e tm h → Q' e tm h) (tm : Tm) (h : Heap), W P n c Q tm h → W P n c Q' tm h := by
  intro c
  induction c with
  | skip => exact fun hq tm h H => hq _ _ _ H
  | label l => exact fun hq tm h H => hq _ _ _ H
  | region id ops draw =>
    intro Q Q' hq tm h H
    cases draw with
    | false => exact aops_mono hq _ _ _ H
    | true => exact fun id => AWp.mono (H id) hq
  | seq a b iha ihb => exact fun hq tm h H => iha (thenK_mono (fun tm h => ihb hq tm h) hq) tm h H
  | cond c a b iha ihb =>
    intro Q Q' hq tm h H
    unfold W at H ⊢
    split
    · rename_i t ht
      rw [ht] at H
      exact ⟨fun e => iha hq tm h (H.1 e), fun e => ihb hq tm h (H.2 e)⟩
    · rename_i hn
      split at H
      · rename_i t ht; exact absurd ht (hn t)
      · exact H
  | block id b ih =>
    intro Q Q' hq tm h H
    refine ih (fun e tm h q => ?_) tm h H
    cases e with
    | exit i =>
      simp only [blockK] at q ⊢
      by_cases c : i = id
      · rw [if_pos c] at q ⊢; exact hq _ _ _ q
      · rw [if_neg c] at q ⊢; exact hq _ _ _ q
    | _ => exact hq _ _ _ q
  | loop b ih =>
    rintro Q Q' hq tm h ⟨I, μ, h0, hr⟩
    exact ⟨I, μ, h0, fun tm h hi => ih (thenK_mono (fun _ _ q => q) hq) tm h (hr tm h hi)⟩
  | exit id => exact fun hq tm h H => hq _ _ _ H
  | ret => exact fun hq tm h H => hq _ _ _ H
  | scope b ih => exact fun hq tm h H => ih hq tm h H
  | rangeFunc f ps x b _ _ => exact fun hq tm h H => fun w0 ρ w a hr t => wpIn_mono (H w0 ρ w a hr t) fun e a w p => p.mono (RenLe.refl _) (DT.refl _ _) hq
  | _ => exact fun hq tm h H => H.elim
/-- A loop whose measure is told beside its relation. -/
theorem W_loopI {P : Program} {n : Nat} {b : Code} {Q : Exit → Tm → Heap → Prop} {tm : Tm} {h : Heap} (I : Nat → Tm → Heap → Prop) (h0 : ∃ k, I k tm h) (hr : ∀ k tm h, I k tm h → W P n b (thenK (fun tm' h' => ∃ k', k' < k ∧ I k' tm' h') Q) tm h) : W P n (.loop b) Q tm h := by
  have hex : ∀ tm h, (∃ k, I k tm h) → ∃ k, I k tm h ∧ ∀ j, I j tm h → k ≤ j := fun tm h ⟨k, hk⟩ => by
    induction k using Nat.strongRecOn with
    | _ k ih =>
      by_cases hx : ∃ j, j < k ∧ I j tm h
      · obtain ⟨j, hj, hij⟩ := hx; exact ih j hj hij
      · exact ⟨k, hk, fun j hj => Nat.le_of_not_lt fun hlt => hx ⟨j, hlt, hj⟩⟩
  refine W_loop (fun tm h => ∃ k, I k tm h) (fun tm h => open Classical in if hx : ∃ k, I k tm h then (hex tm h hx).choose else 0) h0 fun tm h hi => ?_
  have hc := (hex tm h hi).choose_spec
  refine W_mono b (thenK_mono ?_ (fun _ _ _ q => q)) tm h (hr _ tm h hc.1)
  rintro tm' h' ⟨k', hlt, hk'⟩
  have hi' : ∃ k, I k tm' h' := ⟨k', hk'⟩
  refine ⟨hi', ?_⟩
  simp only [dif_pos hi, dif_pos hi']
  exact Nat.lt_of_le_of_lt ((hex tm' h' hi').choose_spec.2 k' hk') hlt
end Go.Proofs.Ytnnkcbkenofhmaa.Am
