/- The texts of this seat, one behind another (part 2 of 11): the frame (an abstract machine), the contracts of functions, the laws. -/
import Derived.Test.YtcgajolmjjeibaaDoorZ1
import Derived.Test.YtcgajolmjjeibaaDoorAmRecs
import Derived.Test.YtcgajolmjjeibaaDoorAmKind5
import Derived.Test.YtcgajolmjjeibaaDoorAmDraw3
import Derived.Test.YtcgajolmjjeibaaDoorAmDraw5
import Derived.Test.YtcgajolmjjeibaaDoorAmDraw4
section
/- Grids in plain terms and in memory: cells; a row of cells that is a variable of one's own; blocks told apart by what they hold. -/
set_option linter.unusedSimpArgs false
set_option linter.unusedVariables false
set_option maxHeartbeats 4000000
set_option maxRecDepth 20000
namespace Go.Proofs.YtcgajolmjjeibaaDoor.Am
open Go Go.RowKit Go.Proofs.Tryd
def imax (x y : Int) : Int := if x < y then y else x
def imin (x y : Int) : Int := if y < x then y else x
theorem imax_spec (x y : Int) : x ≤ imax x y ∧ y ≤ imax x y ∧ (imax x y = x ∨ imax x y = y) := by unfold imax; split <;> omega
theorem imin_spec (x y : Int) : imin x y ≤ x ∧ imin x y ≤ y ∧ (imin x y = x ∨ imin x y = y) := by unfold imin; split <;> omega
theorem abuiltin_max {k : IntKind} {ts : Array TypeId} {x y : Int} : abuiltin prog .max ts #[.int k x, .int k y] = some (.int k (if x < y then y else x)) := by simp [abuiltin, amm]
theorem abuiltin_min {k : IntKind} {ts : Array TypeId} {x y : Int} : abuiltin prog .min ts #[.int k x, .int k y] = some (.int k (if y < x then y else x)) := by simp [abuiltin, amm]
theorem mxV {k : IntKind} {ts : Array TypeId} {x y : Int} : abuiltin prog .max ts #[.int k x, .int k y] = some (.int k (imax x y)) := abuiltin_max
theorem mnV {k : IntKind} {ts : Array TypeId} {x y : Int} : abuiltin prog .min ts #[.int k x, .int k y] = some (.int k (imin x y)) := abuiltin_min
/-- A cell: its text, its attribute, the left half of a wide one. -/
structure Cel where
  tx : List Int
  ar : Int
  wd : Bool
deriving DecidableEq
def bl (a : Int) : Cel := ⟨[32], a, false⟩
def sizeR (r : Int) : Int := imin (imax r 2) 500
def sizeC (c : Int) : Int := imin (imax c 2) 1000
def blankL (r c : Int) : List Cel := List.replicate (sizeR r * sizeC c).toNat (bl 0)
theorem size_rc (r c : Int) : 2 ≤ sizeR r ∧ sizeR r ≤ 500 ∧ 2 ≤ sizeC c ∧ sizeC c ≤ 1000 := by
  have M1 := imax_spec r 2; have M2 := imin_spec (imax r 2) 500
  have M3 := imax_spec c 2; have M4 := imin_spec (imax c 2) 1000
  unfold sizeR sizeC; omega
theorem size_mul (r c : Int) : ((blankL r c).length : Int) = sizeR r * sizeC c ∧ (blankL r c).length ≤ 500000 := by
  have h := size_rc r c
  have h0 := Int.mul_nonneg (show 0 ≤ sizeR r by omega) (show 0 ≤ sizeC c by omega)
  have h1 : sizeR r * sizeC c ≤ 500 * 1000 := Int.mul_le_mul (by omega) (by omega) (by omega) (by omega)
  unfold blankL
  rw [List.length_replicate]
  omega
def boxV (P : Program) (h : Heap) (e : TypeId) (v : Value) : Option (Value × Heap) := match asz P e with | some _ => if v.cells.all one = true then some (.pointer (some ⟨h.size, 0, none⟩), h.new e v.cells.toList) else none | none => none
theorem aeff_box {P : Program} {h : Heap} {tm : Tm} {e : TypeId} {x : Operand} : aeff P tm h (.box e x) = boxV P h e (ev tm x) := rfl
theorem newSz {h : Heap} {e : TypeId} {cs : List Value} : (h.new e cs).size = h.size + 1 := by have := new_size (h := h) (e := e) (cs := cs); omega
def pt (b : Nat) : Value := .pointer (some ⟨b, 0, none⟩)
abbrev PC := Value × Cel
def cC (p : PC) : List Value := [p.1, .int .i64 p.2.ar, .bool p.2.wd]
theorem cC_len : ∀ p, (cC p).length = 3 := fun _ => rfl
def zC : PC := (.slice none 0 0, ⟨[], 0, false⟩)
/-- A variable, of which one knows what it is for. -/
def VarE (h : Heap) (b : Nat) (e : TypeId) (cs : List Value) : Prop := Var h b cs ∧ ∃ k, h.get b = some k ∧ k.elem = e
section
variable {h h' : Heap} {b : Nat} {e : TypeId} {cs : List Value} {D : Nat → Prop}
theorem VarE.new (H : Wf h) {e : TypeId} {cs : List Value} : VarE (h.new e cs) h.size e cs := ⟨Var.new H, _, new_self, rfl⟩
theorem VarE.ch (H : Wf h) (C : Ch D h h') (V : VarE h b e cs) (hd : ¬ D b) : VarE h' b e cs := by
  obtain ⟨k, g, f⟩ := V.2
  exact ⟨Ch.var H C V.1 hd, k, (C.at (V.1.lt H) hd).trans g, f⟩
theorem VarE.keeps (H : Wf h) (K : Keeps h h') (V : VarE h b e cs) : VarE h' b e cs := V.ch H K id
theorem VarE.store (H : Wf h) (V : VarE h b e cs) {t : TypeId} {v : Value} {i : Nat} (ht : asz prog t = some v.cells.size) (hi : i + v.cells.size ≤ cs.length) (h1 : v.cells.all one = true) :
    ∃ h', storeV prog h t (.pointer (some ⟨b, i, none⟩)) v = some (undef, h') ∧ VarE h' b e (over cs i v.cells.toList) ∧ Ch (fun x => x = b) h h' ∧ h'.size = h.size := by
  obtain ⟨k, g1, g2, g3, g4, g5, g6⟩ := V.1
  obtain ⟨h', e1, V1, C1, z1⟩ := V.1.store (P := prog) H ht hi h1
  refine ⟨h', e1, ⟨V1, ?_⟩, C1, z1⟩
  subst g2
  have e2 : storeV prog h t (.pointer (some ⟨b, i, none⟩)) v = some (undef, h.store b k i v.cells.toList) := by simp [storeV, astore, g1, g3, g4, ht, hi, h1]
  rw [e1] at e2
  cases e2
  obtain ⟨k0, q1, q2⟩ := V.2
  rw [g1] at q1; cases q1
  exact ⟨_, Heap.put_self, q2⟩
theorem VarE.store1 (H : Wf h) (V : VarE h b e cs) {t : TypeId} {v : Value} {i : Nat} (ht : asz prog t = some 1) (hi : i < cs.length) (h1 : one v = true) :
    ∃ h', storeV prog h t (.pointer (some ⟨b, i, none⟩)) v = some (undef, h') ∧ VarE h' b e (cs.set i v) ∧ Ch (fun x => x = b) h h' ∧ h'.size = h.size := by
  have hc := one_cells h1
  obtain ⟨h', e1, V', r⟩ := V.store (t := t) (v := v) (i := i) H (by rw [hc]; exact ht) (by rw [hc]; simp; omega) (by rw [hc]; simp [h1])
  refine ⟨h', e1, ?_, r⟩
  rw [hc] at V'
  rw [← over_one hi]; exact V'
/-- A row of things of another size lies elsewhere. -/
theorem Rd.elsewhere {s n : Nat} {v : Value} {xs : List Value} (R : Rd prog h s v n xs) (V : VarE h b e cs) {m : Nat} (he : asz prog e = some m) (hne : m ≠ s) : blkOf v ≠ some b := fun hb => by
  obtain ⟨_, ⟨_, rfl | rfl⟩ | ⟨b', o, c, k, rfl, _, hk, _, ha, _⟩⟩ := R
  · cases hb
  · cases hb
  · cases hb
    obtain ⟨k0, g, f⟩ := V.2
    rw [hk] at g; cases g
    rw [f, he] at ha
    cases ha; exact hne rfl
end
/-- A readable row of a variable's cells. -/
theorem VarE.rd {h : Heap} {b s m c : Nat} {e : TypeId} {cs : List Value} (H : Wf h) (V : VarE h b e cs) (he : asz prog e = some s) (hl : cs.length = m * s) : Rd prog h s (.slice (some ⟨b, 0, none⟩) m c) m cs := by
  obtain ⟨k, g1, g2, g3, _⟩ := V.1
  obtain ⟨k0, q1, q2⟩ := V.2
  rw [g1] at q1; cases q1
  refine ⟨hl, .inr ⟨b, 0, c, k, rfl, V.1.lt H, g1, g3, by rw [q2]; exact he, by rw [g2]; omega, ?_⟩⟩
  rw [g2, List.drop_zero, ← hl, List.take_length]
theorem dropAt {α : Type} {us : List α} {j : Nat} {u : α} (h : us[j]? = some u) : us.drop j = u :: us.drop (j + 1) := by
  obtain ⟨hj, e⟩ := List.getElem?_eq_some_iff.1 h
  rw [List.drop_eq_getElem_cons hj, e]
theorem RdI.ix {h : Heap} {v : Value} {l : List Int} (S : RdI prog h .i32 v l) {i : Nat} {x : Int} (hx : l[i]? = some x) :
    aindexAddr prog 23 v (.int .i64 (i : Int)) = some (.pointer (some (eltA v 1 i))) ∧ aload prog h 21 (eltA v 1 i) = some (.int .i32 x) := by
  obtain ⟨hi, e⟩ := List.getElem?_eq_some_iff.1 hx
  have h1 := S.index underlying23 asz21 (q := .i64) (i := (i : Int)) (by omega) (by omega)
  have h2 := S.at (i := i) (t := 21) underlying21 rfl hi
  rw [Int.toNat_natCast] at h1
  rw [List.getD_eq_getElem?_getD, hx, Option.getD_some] at h2
  exact ⟨h1, h2⟩
theorem RdI.ln {h : Heap} {v : Value} {l : List Int} (S : RdI prog h .i32 v l) {n : Int} (hn : (l.length : Int) = n) : abuiltin prog .len #[23] #[v] = some (.int .i64 n) := by
  rw [← hn]; exact S.len underlying23
/-- Cells in a row that is a variable of one's own: the block kb. -/
def CV (h : Heap) (kb : Nat) (l : List Cel) : Prop := ∃ ps : List PC, ps.map Prod.snd = l ∧ VarE h kb 63 (ps.flatMap cC) ∧ ∀ p, p ∈ ps → RdI prog h .i32 p.1 p.2.tx
def cvS (kb n : Nat) : Value := .slice (some ⟨kb, 0, none⟩) n (n + 1)
section
variable {h h' : Heap} {kb : Nat} {l : List Cel} {D : Nat → Prop}
theorem CV.ch (H : Wf h) (G : CV h kb l) (C : Ch D h h') (hk : ¬ D kb) (hD : ∀ b, D b → ∃ e cs m, VarE h b e cs ∧ asz prog e = some m ∧ m ≠ 1) : CV h' kb l := by
  obtain ⟨ps, e, V, A⟩ := G
  exact ⟨ps, e, V.ch H C hk, fun p hp => Ch.rd C (A p hp) fun b hb d => by
    obtain ⟨e, cs, m, W, h1, h2⟩ := hD b d
    exact Rd.elsewhere (A p hp) W h1 h2 hb⟩
theorem CV.keeps (H : Wf h) (G : CV h kb l) (K : Keeps h h') : CV h' kb l := G.ch H K id fun b e => e.elim
theorem CV.lt (H : Wf h) (G : CV h kb l) : kb < h.size := by
  obtain ⟨ps, e, V, A⟩ := G; exact V.1.lt H
theorem CV.var (G : CV h kb l) : ∃ cs, VarE h kb 63 cs := by
  obtain ⟨ps, e, V, A⟩ := G; exact ⟨_, V⟩
/-- A cell read. -/
theorem CV.at (G : CV h kb l) {i : Nat} {c : Cel} (hi : l[i]? = some c) : ∃ tv, RdI prog h .i32 tv c.tx ∧ aload prog h 23 ⟨kb, i * 3, none⟩ = some tv ∧ aload prog h 3 ⟨kb, i * 3 + 1, none⟩ = some (.int .i64 c.ar) ∧ aload prog h 4 ⟨kb, i * 3 + 2, none⟩ = some (.bool c.wd) := by
  obtain ⟨ps, rfl, V, A⟩ := G
  rw [List.getElem?_map, Option.map_eq_some_iff] at hi
  obtain ⟨p, hp, rfl⟩ := hi
  have h0 := V.1.load1 (P := prog) (t := 23) underlying23 rfl (i := i * 3 + 0)
  have h1 := V.1.load1 (P := prog) (t := 3) underlying3 rfl (i := i * 3 + 1)
  have h2 := V.1.load1 (P := prog) (t := 4) underlying4 rfl (i := i * 3 + 2)
  rw [fm_at cC_len hp (by decide)] at h0 h1 h2
  exact ⟨p.1, A p (List.mem_of_getElem? hp), h0, h1, h2⟩
theorem CV.index {n : Nat} {z : Int} (h0 : 0 ≤ z) (h1 : z < n) : aindexAddr prog 27 (cvS kb n) (.int .i64 z) = some (.pointer (some ⟨kb, z.toNat * 3, none⟩)) := by
  simp [aindexAddr, cvS, underlying27, asz63, h0, h1]
theorem CV.len {n : Nat} : abuiltin prog .len #[27] #[cvS kb n] = some (.int .i64 n) := by
  simp [abuiltin, cvS, underlying27]
/-- A cell set. -/
theorem CV.set (H : Wf h) (G : CV h kb l) {i : Nat} (hi : i < l.length) {tv : Value} {c : Cel} (T : RdI prog h .i32 tv c.tx) :
    ∃ h', storeV prog h 63 (.pointer (some ⟨kb, i * 3, none⟩)) (.agg #[tv, .int .i64 c.ar, .bool c.wd]) = some (undef, h') ∧ CV h' kb (l.set i c) ∧ Ch (fun x => x = kb) h h' ∧ h'.size = h.size := by
  obtain ⟨ps, rfl, V, A⟩ := G
  rw [List.length_map] at hi
  have hcells : (Value.agg #[tv, .int .i64 c.ar, .bool c.wd]).cells.toList = cC (tv, c) := by simp [Value.cells, cC]
  have o := Rd.one T
  obtain ⟨h', e1, V1, C1, z1⟩ := V.store H (t := 63) (v := .agg #[tv, .int .i64 c.ar, .bool c.wd]) (i := i * 3) asz63 (by rw [fm_len cC_len]; simp [Value.cells]; omega) (by simp [Value.cells, o, one_int, one_bool])
  rw [hcells, fm_over cC_len (x := (tv, c)) hi] at V1
  have ap : ∀ v xs, RdI prog h .i32 v xs → RdI prog h' .i32 v xs := fun v xs R => Ch.rd C1 R fun b hb d => by
    rw [show b = kb from d] at hb
    exact Rd.elsewhere R V asz63 (by decide) hb
  refine ⟨h', e1, ⟨_, by rw [List.map_set], V1, fun p hp => ?_⟩, C1, z1⟩
  rcases List.mem_or_eq_of_mem_set hp with hp | rfl
  · exact ap _ _ (A p hp)
  · exact ap _ _ T
/-- A cell's text set. -/
theorem CV.text (H : Wf h) (G : CV h kb l) {i : Nat} {c : Cel} (hi : l[i]? = some c) {tv : Value} {tx : List Int} (T : RdI prog h .i32 tv tx) :
    ∃ h', storeV prog h 23 (.pointer (some ⟨kb, i * 3, none⟩)) tv = some (undef, h') ∧ CV h' kb (l.set i { c with tx := tx }) ∧ Ch (fun x => x = kb) h h' ∧ h'.size = h.size := by
  obtain ⟨ps, rfl, V, A⟩ := G
  rw [List.getElem?_map, Option.map_eq_some_iff] at hi
  obtain ⟨p, hp, rfl⟩ := hi
  have hlt := (List.getElem?_eq_some_iff.1 hp).1
  have o := Rd.one T
  have hc := one_cells o
  obtain ⟨h', e1, V1, C1, z1⟩ := V.store H (t := 23) (v := tv) (i := i * 3) (by rw [hc]; exact asz23) (by rw [hc, fm_len cC_len]; simp; omega) (by rw [hc]; simp [o])
  have hov : over (ps.flatMap cC) (i * 3) [tv] = (ps.set i (tv, { p.2 with tx := tx })).flatMap cC := by
    rw [← fm_over cC_len (x := (tv, { p.2 with tx := tx })) hlt]
    refine List.ext_getElem? fun j => ?_
    have hl3 : i * 3 + 3 ≤ (ps.flatMap cC).length := by rw [fm_len cC_len]; omega
    rw [over_get (vs := [tv]) (by rw [List.length_singleton]; omega), over_get (vs := cC (tv, { p.2 with tx := tx })) (by rw [cC_len]; omega)]
    rw [List.length_singleton, cC_len]
    by_cases h1 : i * 3 ≤ j ∧ j < i * 3 + 3
    · obtain ⟨d, rfl⟩ : ∃ d, j = i * 3 + d := ⟨j - i * 3, by omega⟩
      have hd : d = 0 ∨ d = 1 ∨ d = 2 := by omega
      rcases hd with rfl | rfl | rfl
      · rw [if_pos (by omega), if_pos (by omega)]; simp [cC]
      · rw [if_neg (by omega), if_pos (by omega), fm_at cC_len hp (by decide)]; simp [cC]
      · rw [if_neg (by omega), if_pos (by omega), fm_at cC_len hp (by decide)]; simp [cC]
    · rw [if_neg (by omega), if_neg (by omega)]
  rw [hc] at V1
  have V1' : VarE h' kb 63 (over (ps.flatMap cC) (i * 3) [tv]) := V1
  rw [hov] at V1'
  have ap : ∀ v xs, RdI prog h .i32 v xs → RdI prog h' .i32 v xs := fun v xs R => Ch.rd C1 R fun b hb d => by
    rw [show b = kb from d] at hb
    exact Rd.elsewhere R V asz63 (by decide) hb
  refine ⟨h', e1, ⟨_, by rw [List.map_set], V1', fun q hq => ?_⟩, C1, z1⟩
  rcases List.mem_or_eq_of_mem_set hq with hq | rfl
  · exact ap _ _ (A q hq)
  · exact ap _ _ T
end
end Go.Proofs.YtcgajolmjjeibaaDoor.Am
end
section
/- Grids, the program: the canvas, a pen; contracts of cell, put, blank, pen, by walks. -/
set_option linter.unusedSimpArgs false
set_option linter.unusedVariables false
set_option maxHeartbeats 4000000
set_option maxRecDepth 20000
namespace Go.Proofs.YtcgajolmjjeibaaDoor.Am
open Go Go.RowKit Go.Proofs.Tryd
/-- The cell of a column, if it is shown. -/
def cellM (R C y lo hi col : Int) : Option Nat := if y < 0 ∨ R ≤ y ∨ col < lo ∨ hi ≤ col then none else some (y * C + col).toNat
def putM (l : List Cel) : Option Nat → Cel → List Cel
  | none, _ => l
  | some i, c => l.set i c
theorem putM_len {l : List Cel} {o : Option Nat} {c : Cel} : (putM l o c).length = l.length := by cases o <;> simp [putM]
theorem cellM_lt {R C y lo hi col : Int} {n i : Nat} (h : cellM R C y lo hi col = some i) (hl : 0 ≤ lo) (hh : hi ≤ C) (hm : R * C = n) : i < n ∧ (i : Int) = y * C + col ∧ 0 ≤ y ∧ y < R ∧ lo ≤ col ∧ col < hi ∧ 0 ≤ y * C ∧ y * C ≤ n := by
  unfold cellM at h
  split at h
  · cases h
  · rename_i c
    cases h
    have h1 : 0 ≤ y * C := Int.mul_nonneg (by omega) (by omega)
    have h2 : (y + 1) * C ≤ R * C := Int.mul_le_mul_of_nonneg_right (by omega) (by omega)
    have h3 : (y + 1) * C = y * C + C := by rw [Int.add_mul, Int.one_mul]
    omega
def canC (R C : Int) (kb n : Nat) (y x : Int) : List Value := [.int .i64 R, .int .i64 C, cvS kb n, .int .i64 y, .int .i64 x]
/-- A canvas that is drawn. -/
structure DS (h0 h : Heap) (cb kb : Nat) (R C : Int) (l : List Cel) : Prop where
  K : Keeps h0 h
  V : VarE h cb 96 (canC R C kb l.length 0 0)
  G : CV h kb l
  o : h0.size ≤ cb ∧ h0.size ≤ kb ∧ cb ≠ kb
  i : 0 ≤ R ∧ R ≤ 500 ∧ 0 ≤ C ∧ C ≤ 1000 ∧ R * C = l.length
/-- Blocks that are no cells', no canvas', and no rows of numbers. -/
def Oth (h0 h : Heap) (cb kb : Nat) (D : Nat → Prop) : Prop := ∀ b, D b → b ≠ cb ∧ b ≠ kb ∧ h0.size ≤ b ∧ ∃ e cs m, VarE h b e cs ∧ asz prog e = some m ∧ m ≠ 1
section
variable {h0 h h' : Heap} {cb kb pb : Nat} {R C y lo hi col ar : Int} {l : List Cel} {D : Nat → Prop} {last : Option Nat}
theorem DS.ch (S : DS h0 h cb kb R C l) (H : Ch D h h') (hD : Oth h0 h cb kb D) : DS h0 h' cb kb R C l :=
  ⟨S.K.step H fun b e => (hD b e).2.2.1, S.V.ch (Ch.wf S.K) H (fun e => (hD _ e).1 rfl), S.G.ch (Ch.wf S.K) H (fun e => (hD _ e).2.1 rfl) fun b e => (hD b e).2.2.2, S.o, S.i⟩
theorem DS.keeps (S : DS h0 h cb kb R C l) (K : Keeps h h') : DS h0 h' cb kb R C l := S.ch K fun b e => e.elim
theorem DS.lt (S : DS h0 h cb kb R C l) : cb < h.size ∧ kb < h.size := ⟨S.V.1.lt (Ch.wf S.K), S.G.lt (Ch.wf S.K)⟩
theorem DS.len (S : DS h0 h cb kb R C l) : l.length ≤ 500000 := by
  have h1 : R * C ≤ 500 * 1000 := Int.mul_le_mul S.i.2.1 S.i.2.2.2.1 S.i.2.2.1 (by omega)
  have := S.i.2.2.2.2; omega
theorem DS.loads (S : DS h0 h cb kb R C l) : aload prog h 3 ⟨cb, 0, none⟩ = some (.int .i64 R) ∧ aload prog h 3 ⟨cb, 1, none⟩ = some (.int .i64 C) ∧ aload prog h 27 ⟨cb, 2, none⟩ = some (cvS kb l.length) :=
  ⟨S.V.1.load1 (P := prog) (t := 3) underlying3 rfl (i := 0), S.V.1.load1 (P := prog) (t := 3) underlying3 rfl (i := 1), S.V.1.load1 (P := prog) (t := 27) underlying27 rfl (i := 2)⟩
def lastV (kb : Nat) : Option Nat → Value
  | none => .pointer none
  | some i => .pointer (some ⟨kb, i * 3, none⟩)
theorem one_lastV {o : Option Nat} : one (lastV kb o) = true := by cases o <;> rfl
def penC (cb kb : Nat) (y lo hi col ar : Int) (last : Option Nat) : List Value := [pt cb, .int .i64 y, .int .i64 lo, .int .i64 hi, .int .i64 col, .int .i64 ar, lastV kb last]
/-- A pen. -/
structure PN (h : Heap) (pb cb kb : Nat) (y lo hi col ar : Int) (last : Option Nat) : Prop where
  V : VarE h pb 127 (penC cb kb y lo hi col ar last)
  n : pb ≠ cb ∧ pb ≠ kb
theorem PN.loads (N : PN h pb cb kb y lo hi col ar last) : aload prog h 70 ⟨pb, 0, none⟩ = some (pt cb) ∧ aload prog h 3 ⟨pb, 1, none⟩ = some (.int .i64 y) ∧ aload prog h 3 ⟨pb, 2, none⟩ = some (.int .i64 lo) ∧ aload prog h 3 ⟨pb, 3, none⟩ = some (.int .i64 hi) ∧
    aload prog h 3 ⟨pb, 4, none⟩ = some (.int .i64 col) ∧ aload prog h 3 ⟨pb, 5, none⟩ = some (.int .i64 ar) ∧ aload prog h 125 ⟨pb, 6, none⟩ = some (lastV kb last) :=
  ⟨N.V.1.load1 (P := prog) (t := 70) underlying70 rfl (i := 0), N.V.1.load1 (P := prog) (t := 3) underlying3 rfl (i := 1), N.V.1.load1 (P := prog) (t := 3) underlying3 rfl (i := 2), N.V.1.load1 (P := prog) (t := 3) underlying3 rfl (i := 3),
    N.V.1.load1 (P := prog) (t := 3) underlying3 rfl (i := 4), N.V.1.load1 (P := prog) (t := 3) underlying3 rfl (i := 5), N.V.1.load1 (P := prog) (t := 125) underlying125 rfl (i := 6)⟩
theorem PN.ch (N : PN h pb cb kb y lo hi col ar last) (H : Wf h) (C1 : Ch D h h') (hd : ¬ D pb) : PN h' pb cb kb y lo hi col ar last := ⟨N.V.ch H C1 hd, N.n⟩
theorem PN.oth (N : PN h pb cb kb y lo hi col ar last) (hp : h0.size ≤ pb) : Oth h0 h cb kb (fun b => b = pb) := fun b e => by
  subst e; exact ⟨N.n.1, N.n.2, hp, _, _, _, N.V, asz127, by decide⟩
end
/-- What drawing changes: the cells, and the pen. -/
abbrev DP (kb pb : Nat) : Nat → Prop := fun b => b = kb ∨ b = pb
theorem cell_ok {h0 h : Heap} {cb kb pb : Nat} {R C y lo hi col ar z : Int} {l : List Cel} {last : Option Nat} (S : DS h0 h cb kb R C l) (N : PN h pb cb kb y lo hi col ar last) (hl : 0 ≤ lo) (hh : hi ≤ C) :
    ACalls prog 73 #[pt pb, .int .i64 z] h (fun v h' => v = lastV kb (cellM R C y lo hi z) ∧ h' = h) := by
  refine acalls_of_W func73 rfl (by kernel_rfl) (by kernel_rfl) (by simp [ntmps73]) ?_
  obtain ⟨n0, n1, n2, n3, n4, n5, n6⟩ := N.loads
  obtain ⟨c0, c1, c2⟩ := S.loads
  have hm := S.i.2.2.2.2
  have hln := S.len
  simp only [pt] at n0
  have none1 : (y < 0 ∨ R ≤ y ∨ z < lo ∨ hi ≤ z) → cellM R C y lo hi z = none := fun e => by unfold cellM; rw [if_pos e]
  by_cases a1 : y < 0
  · have d1 := decide_eq_true a1
    refine adraw_order [(0, false), (1, false), (2, false), (3, false), (4, false), (5, false), (6, false), (7, false), (8, false), (9, false), (10, false), (11, false), (12, false), (13, false), (14, false), (15, false), (16, false), (17, false), (18, false), (19, false), (20, false), (21, false), (22, false), (23, false), (24, false), (25, false), (26, false), (27, false), (28, false), (29, false), (30, false), (31, false), (32, false), (33, false), (34, false)] mixed (by kernel_rfl) (by kernel_rfl) (by kernel_rfl) (by with_reducible repeat (first | exact PF_retK | refine PF_thenK ?_ | refine PF_blockK ?_)) ?_
    simp only [wk, wt, wl, ↓reduceIte, Nat.reduceEqDiff, Nat.reduceAdd, Nat.zero_add, not_false_eq_true, not_true_eq_false, pt, n1, d1]
    rw [none1 (.inl a1)]; exact ⟨rfl, trivial⟩
  have d1 := decide_eq_false a1
  by_cases a2 : R ≤ y
  · have d2 := decide_eq_true a2
    refine adraw_order [(0, false), (1, false), (2, false), (3, false), (4, false), (5, false), (6, false), (7, false), (8, false), (9, false), (10, false), (11, false), (12, false), (13, false), (14, false), (15, false), (16, false), (17, false), (18, false), (19, false), (20, false), (21, false), (22, false), (23, false), (24, false), (25, false), (26, false), (27, false), (28, false), (29, false), (30, false), (31, false), (32, false), (33, false), (34, false)] mixed (by kernel_rfl) (by kernel_rfl) (by kernel_rfl) (by with_reducible repeat (first | exact PF_retK | refine PF_thenK ?_ | refine PF_blockK ?_)) ?_
    simp only [wk, wt, wl, ↓reduceIte, Nat.reduceEqDiff, Nat.reduceAdd, Nat.zero_add, not_false_eq_true, not_true_eq_false, pt, n1, d1, n0, c0, d2]
    rw [none1 (.inr (.inl a2))]; exact ⟨rfl, trivial⟩
  have d2 := decide_eq_false a2
  by_cases a3 : z < lo
  · have d3 := decide_eq_true a3
    refine adraw_order [(0, false), (1, false), (2, false), (3, false), (4, false), (5, false), (6, false), (7, false), (8, false), (9, false), (10, false), (11, false), (12, false), (13, false), (14, false), (15, false), (16, false), (17, false), (18, false), (19, false), (20, false), (21, false), (22, false), (23, false), (24, false), (25, false), (26, false), (27, false), (28, false), (29, false), (30, false), (31, false), (32, false), (33, false), (34, false)] mixed (by kernel_rfl) (by kernel_rfl) (by kernel_rfl) (by with_reducible repeat (first | exact PF_retK | refine PF_thenK ?_ | refine PF_blockK ?_)) ?_
    simp only [wk, wt, wl, ↓reduceIte, Nat.reduceEqDiff, Nat.reduceAdd, Nat.zero_add, not_false_eq_true, not_true_eq_false, pt, n1, d1, n0, c0, d2, n2, d3]
    rw [none1 (.inr (.inr (.inl a3)))]; exact ⟨rfl, trivial⟩
  have d3 := decide_eq_false a3
  by_cases a4 : hi ≤ z
  · have d4 := decide_eq_true a4
    refine adraw_order [(0, false), (1, false), (2, false), (3, false), (4, false), (5, false), (6, false), (7, false), (8, false), (9, false), (10, false), (11, false), (12, false), (13, false), (14, false), (15, false), (16, false), (17, false), (18, false), (19, false), (20, false), (21, false), (22, false), (23, false), (24, false), (25, false), (26, false), (27, false), (28, false), (29, false), (30, false), (31, false), (32, false), (33, false), (34, false)] mixed (by kernel_rfl) (by kernel_rfl) (by kernel_rfl) (by with_reducible repeat (first | exact PF_retK | refine PF_thenK ?_ | refine PF_blockK ?_)) ?_
    simp only [wk, wt, wl, ↓reduceIte, Nat.reduceEqDiff, Nat.reduceAdd, Nat.zero_add, not_false_eq_true, not_true_eq_false, pt, n1, d1, n0, c0, d2, n2, d3, n3, d4]
    rw [none1 (.inr (.inr (.inr a4)))]; exact ⟨rfl, trivial⟩
  have d4 := decide_eq_false a4
  have hsome : cellM R C y lo hi z = some (y * C + z).toNat := by unfold cellM; rw [if_neg (by omega)]
  have hb := cellM_lt hsome hl hh hm
  have w1 : IntKind.i64.wrap (y * C) = y * C := IntWalk.i64_in _ (by omega)
  have w2 : IntKind.i64.wrap (y * C + z) = y * C + z := IntWalk.i64_in _ (by omega)
  have IX : aindexAddr prog 27 (cvS kb l.length) (.int .i64 (y * C + z)) = some (.pointer (some ⟨kb, (y * C + z).toNat * 3, none⟩)) := CV.index (by omega) (by omega)
  refine adraw_order [(0, false), (1, false), (2, false), (3, false), (4, false), (5, false), (6, false), (7, false), (8, false), (9, false), (10, false), (11, false), (12, false), (13, false), (14, false), (15, false), (16, false), (17, false), (18, false), (19, false), (20, false), (21, false), (22, false), (23, false), (24, false), (25, false), (26, false), (27, false), (28, false), (29, false), (30, false), (31, false), (32, false), (33, false), (34, false)] mixed (by kernel_rfl) (by kernel_rfl) (by kernel_rfl) (by with_reducible repeat (first | exact PF_retK | refine PF_thenK ?_ | refine PF_blockK ?_)) ?_
  simp only [wk, wt, wl, ↓reduceIte, Nat.reduceEqDiff, Nat.reduceAdd, Nat.zero_add, not_false_eq_true, not_true_eq_false, pt, n1, d1, n0, c0, d2, n2, d3, n3, d4]
  refine adraw_order [(0, false), (1, false), (2, false), (3, false), (4, false), (5, false), (6, false), (7, false), (8, false), (9, false), (10, false), (11, false), (12, false), (13, false), (14, false), (15, false), (16, false), (17, false), (18, false), (19, false), (20, false), (21, false), (22, false)] mixed (by kernel_rfl) (by kernel_rfl) (by kernel_rfl) (by with_reducible repeat (first | exact PF_retK | refine PF_thenK ?_ | refine PF_blockK ?_)) ?_
  simp only [wk, wt, wl, ↓reduceIte, Nat.reduceEqDiff, Nat.reduceAdd, Nat.zero_add, not_false_eq_true, not_true_eq_false, pt, n1, n0, c1, c2, w1, w2, IX]
  rw [hsome]; exact ⟨rfl, trivial⟩
theorem cell_cells {tv : Value} {a : Int} {w : Bool} : (Value.agg #[tv, .int .i64 a, .bool w]).cells.toList = [tv, .int .i64 a, .bool w] := by simp [Value.cells]
theorem boxV_cell {h : Heap} {v : Value} {a : Int} {w : Bool} (o : one v = true) : boxV prog h 63 (.agg #[v, .int .i64 a, .bool w]) = some (.pointer (some ⟨h.size, 0, none⟩), h.new 63 [v, .int .i64 a, .bool w]) := by
  simp [boxV, asz63, Value.cells, one_cells o, o, one_int, one_bool]
theorem put_ok {h0 h : Heap} {cb kb pb : Nat} {R C y lo hi col ar : Int} {l : List Cel} {last o : Option Nat} {c : Cel} {tv : Value} (S : DS h0 h cb kb R C l) (N : PN h pb cb kb y lo hi col ar last) (ho : ∀ i, o = some i → i < l.length) (T : RdI prog h .i32 tv c.tx) :
    ACalls prog 72 #[lastV kb o, .agg #[tv, .int .i64 c.ar, .bool c.wd]] h (fun v h' => DS h0 h' cb kb R C (putM l o c) ∧ PN h' pb cb kb y lo hi col ar last ∧ Ch (fun b => b = kb) h h') := by
  refine acalls_of_W' func72 rfl (by kernel_rfl) (by kernel_rfl) (by simp [ntmps72]) ?_
  intro H
  have o1 := Rd.one T
  have N1 := Keeps.new H 63 [tv, .int .i64 c.ar, .bool c.wd]
  have V1 := Var.new (e := 63) H (cs := [tv, .int .i64 c.ar, .bool c.wd])
  have L1 := V1.loadA (P := prog) (t := 63) underlying63 rfl asz63
  have S1 := S.keeps N1
  cases o with
  | none =>
    have PN0 : abin prog .neq 125 (.pointer none) (.pointer none) = some (.bool false) := by simp [abin, aeq, underlying125]
    simp only [wk, wt, wl, ↓reduceIte, Nat.reduceEqDiff, Nat.reduceAdd, Nat.zero_add, not_false_eq_true, not_true_eq_false, lastV, aeff_box, boxV_cell o1, PN0]
    exact ⟨S1, N.ch H N1 id, N1.mono fun _ e => e.elim⟩
  | some i =>
    have PN0 : abin prog .neq 125 (.pointer (some ⟨kb, i * 3, none⟩)) (.pointer none) = some (.bool true) := by simp [abin, aeq, underlying125]
    obtain ⟨h2, e2, G2, C2, z2⟩ := S1.G.set (Ch.wf N1) (ho i rfl) (T.keeps N1)
    simp only [wk, wt, wl, ↓reduceIte, Nat.reduceEqDiff, Nat.reduceAdd, Nat.zero_add, not_false_eq_true, not_true_eq_false, lastV, aeff_box, boxV_cell o1, PN0, L1, e2]
    have C02 : Ch (fun b => b = kb) h h2 := (N1.mono fun _ e => e.elim).then C2 fun b e => .inr e
    refine ⟨⟨S.K.step C02 fun b e => by have := S.o; omega, ?_, G2, S.o, by have := S.i; simpa [putM] using this⟩, N.ch H C02 N.n.2, C02⟩
    have := S.V.ch H C02 S.o.2.2
    simpa [putM] using this
theorem blank_ok {h : Heap} {a : Int} : ACalls prog 54 #[.int .i64 a] h (fun y h' => ∃ tv, y = .agg #[tv, .int .i64 a, .bool false] ∧ RdI prog h' .i32 tv [32] ∧ (∀ z, blkOf tv = some z → h.size ≤ z) ∧ Keeps h h') := by
  refine acalls_of_W' func54 rfl (by kernel_rfl) (by kernel_rfl) (by simp [ntmps54]) ?_
  intro H
  have N1 := Keeps.new H 63 [.slice none 0 0, .int .i64 0, .bool false]
  have V1 := Var.new (e := 63) H (cs := [.slice none 0 0, .int .i64 0, .bool false])
  have N2 := Keeps.new (Ch.wf N1) 21 [.int .i32 32]
  have R2 : RdI prog ((h.new 63 [.slice none 0 0, .int .i64 0, .bool false]).new 21 [.int .i32 32]) .i32 (.slice (some ⟨h.size + 1, 0, none⟩) 1 2) [32] := Rd.new (Ch.wf N1) asz21 (by simp)
  have V2 := Keeps.var (Ch.wf N1) N2 V1
  have bc : abuild prog 63 #[(0, .slice (some ⟨h.size + 1, 0, none⟩) 1 2), (1, .int .i64 a)] = some (.agg #[.slice (some ⟨h.size + 1, 0, none⟩) 1 2, .int .i64 a, .bool false]) := by simp [abuild, wt, aplaces, Instr.fill, Value.cells]
  simp only [wk, wt, wl, ↓reduceIte, Nat.reduceEqDiff, Nat.reduceAdd, Nat.zero_add, not_false_eq_true, not_true_eq_false, new_size, bc]
  generalize (h.new 63 [.slice none 0 0, .int .i64 0, .bool false]).new 21 [.int .i32 32] = h2 at *
  obtain ⟨h3, e3, V3, C3, z3⟩ := V2.store (P := prog) (t := 63) (v := .agg #[.slice (some ⟨h.size + 1, 0, none⟩) 1 2, .int .i64 a, .bool false]) (i := 0) (Ch.wf N2) asz63 (by simp [Value.cells]) (by simp [Value.cells, one])
  simp only [Value.cells, over_all (xs := [.slice none 0 0, .int .i64 0, .bool false]) (vs := [.slice (some ⟨h.size + 1, 0, none⟩) 1 2, .int .i64 a, .bool false]) rfl] at V3
  have L3 := V3.loadA (P := prog) (t := 63) underlying63 rfl asz63
  simp only [wk, wt, wl, ↓reduceIte, Nat.reduceEqDiff, Nat.reduceAdd, Nat.zero_add, not_false_eq_true, not_true_eq_false, e3, L3]
  exact ⟨_, rfl, Ch.rd C3 R2 fun y hy e => by have e2 : h.size + 1 = y := (by cases hy; rfl); omega, fun z hz => by have e2 : h.size + 1 = z := (by cases hz; rfl); omega, (N1.trans N2).step C3 fun y e => by omega⟩
theorem pen_ok {h0 h : Heap} {cb kb : Nat} {R C y lo hi col ar : Int} {l : List Cel} (S : DS h0 h cb kb R C l) :
    ACalls prog 47 #[pt cb, .int .i64 y, .int .i64 lo, .int .i64 hi, .int .i64 col, .int .i64 ar] h (fun v h' => ∃ pb, v = pt pb ∧ h.size ≤ pb ∧ PN h' pb cb kb y (imax lo 0) (imin hi C) col ar none ∧ Keeps h h') := by
  refine acalls_of_W' func47 rfl (by kernel_rfl) (by kernel_rfl) (by simp [ntmps47]) ?_
  intro H
  obtain ⟨c0, c1, c2⟩ := S.loads
  have hlt := S.lt
  have bp : abuild prog 127 #[(0, .pointer (some ⟨cb, 0, none⟩)), (1, .int .i64 y), (2, .int .i64 (imax lo 0)), (3, .int .i64 (imin hi C)), (4, .int .i64 col), (5, .int .i64 ar)] = some (.agg (penC cb kb y (imax lo 0) (imin hi C) col ar none).toArray) := by simp [abuild, wt, aplaces, Instr.fill, Value.cells]; rfl
  have bx : boxV prog h 127 (.agg (penC cb kb y (imax lo 0) (imin hi C) col ar none).toArray) = some (.pointer (some ⟨h.size, 0, none⟩), h.new 127 (penC cb kb y (imax lo 0) (imin hi C) col ar none)) := by
    simp [boxV, asz127, Value.cells, penC, pt, lastV, one_int, one]
  refine adraw_order [(0, false), (1, false), (2, false), (3, false), (4, false), (5, false), (6, false), (7, false), (8, false), (9, false), (10, false), (11, false), (12, false), (13, false), (14, false), (15, false), (16, true), (17, false)] mixed (by kernel_rfl) (by kernel_rfl) (by kernel_rfl) (by with_reducible repeat (first | exact PF_retK | refine PF_thenK ?_ | refine PF_blockK ?_)) ?_
  simp only [wk, wt, wl, ↓reduceIte, Nat.reduceEqDiff, Nat.reduceAdd, Nat.zero_add, not_false_eq_true, not_true_eq_false, pt, mxV, mnV, c1, bp, aeff_box, bx, dK_t]
  exact ⟨(Keeps.new H _ _).reads H, h.size, rfl, Nat.le_refl _, ⟨VarE.new H, by omega⟩, Keeps.new H _ _⟩
end Go.Proofs.YtcgajolmjjeibaaDoor.Am
end
section
/- Grids, the program: what a text typed by a pen does, in plain terms; the contract of text, by a walk. -/
set_option linter.unusedSimpArgs false
set_option linter.unusedVariables false
set_option maxHeartbeats 4000000
set_option maxRecDepth 20000
namespace Go.Proofs.YtcgajolmjjeibaaDoor.Am
open Go Go.RowKit Go.Proofs.Tryd
structure TS where
  l : List Cel
  col : Int
  last : Option Nat
def addM (l : List Cel) (i : Nat) (r : Int) : List Cel := match l[i]? with
  | none => l
  | some c => l.set i { c with tx := c.tx ++ [r] }
/-- One rune typed. -/
def runeM (R C y lo hi ar : Int) (S : TS) (r : Int) : TS :=
  if widthZ r = 0 then (match S.last with
    | none => S
    | some i => ⟨addM S.l i r, S.col, S.last⟩)
  else if widthZ r = 1 then ⟨putM S.l (cellM R C y lo hi S.col) ⟨[r], ar, false⟩, S.col + 1, cellM R C y lo hi S.col⟩
  else if (cellM R C y lo hi S.col).isSome = true ∧ (cellM R C y lo hi (S.col + 1)).isSome = true then
    ⟨putM (putM S.l (cellM R C y lo hi S.col) ⟨[r], ar, true⟩) (cellM R C y lo hi (S.col + 1)) ⟨[], ar, false⟩, S.col + 2, cellM R C y lo hi S.col⟩
  else ⟨putM (putM S.l (cellM R C y lo hi S.col) (bl ar)) (cellM R C y lo hi (S.col + 1)) (bl ar), S.col + 2, none⟩
def textM (R C y lo hi ar : Int) (l : List Cel) (col : Int) (xs : List Int) : TS := xs.foldl (runeM R C y lo hi ar) ⟨l, col, none⟩
theorem addM_len {l : List Cel} {i : Nat} {r : Int} : (addM l i r).length = l.length := by unfold addM; split <;> simp
/-- What holds of what is typed. -/
structure TI (n : Nat) (S : TS) : Prop where
  len : S.l.length = n
  last : ∀ j, S.last = some j → j < n
theorem rune_inv {R C y lo hi ar r : Int} {n : Nat} {S : TS} (I : TI n S) (hl : 0 ≤ lo) (hh : hi ≤ C) (hm : R * C = n) : TI n (runeM R C y lo hi ar S r) ∧ S.col ≤ (runeM R C y lo hi ar S r).col ∧ (runeM R C y lo hi ar S r).col ≤ S.col + 2 := by
  have hc : ∀ z j, cellM R C y lo hi z = some j → j < n := fun z j e => (cellM_lt e hl hh hm).1
  unfold runeM
  split
  · split
    · exact ⟨I, by omega, by omega⟩
    · exact ⟨⟨by rw [addM_len]; exact I.len, I.last⟩, Int.le_refl _, by show S.col ≤ S.col + 2; omega⟩
  · split
    · exact ⟨⟨by simp [putM_len, I.len], hc _⟩, by simp; omega, by simp⟩
    · split
      · exact ⟨⟨by simp [putM_len, I.len], hc _⟩, by simp; omega, by simp⟩
      · exact ⟨⟨by simp [putM_len, I.len], fun j e => by cases e⟩, by simp; omega, by simp⟩
theorem text_inv {R C y lo hi ar : Int} {n : Nat} (hl : 0 ≤ lo) (hh : hi ≤ C) (hm : R * C = n) : ∀ (xs : List Int) {S : TS}, TI n S → TI n (xs.foldl (runeM R C y lo hi ar) S) ∧ S.col ≤ (xs.foldl (runeM R C y lo hi ar) S).col ∧ (xs.foldl (runeM R C y lo hi ar) S).col ≤ S.col + 2 * xs.length
  | [], S, I => ⟨I, by simp, by simp⟩
  | x :: xs, S, I => by
    have h1 := rune_inv (R := R) (C := C) (y := y) (lo := lo) (hi := hi) (ar := ar) (r := x) I hl hh hm
    have h2 := text_inv hl hh hm xs h1.1 (y := y) (ar := ar)
    simp only [List.foldl_cons, List.length_cons]
    exact ⟨h2.1, by omega, by omega⟩
/-- Texts grow by what is typed. -/
theorem rune_tx {R C y lo hi ar r : Int} {m : Nat} {S : TS} (hm : 1 ≤ m) (I : ∀ c, c ∈ S.l → c.tx.length ≤ m) : ∀ c, c ∈ (runeM R C y lo hi ar S r).l → c.tx.length ≤ m + 1 := by
  have sub : ∀ {l : List Cel} {o : Option Nat} {d : Cel} {k : Nat}, (∀ c, c ∈ l → c.tx.length ≤ k) → d.tx.length ≤ k → ∀ c, c ∈ putM l o d → c.tx.length ≤ k := fun {l o d k} h1 h2 c hc => by
    cases o with
    | none => exact h1 c hc
    | some i =>
      rcases List.mem_or_eq_of_mem_set hc with h | rfl
      · exact h1 c h
      · exact h2
  have I2 : ∀ c, c ∈ S.l → c.tx.length ≤ m + 1 := fun c hc => Nat.le_succ_of_le (I c hc)
  unfold runeM
  split
  · split
    · exact I2
    · rename_i i _
      unfold addM
      simp only
      split
      · exact I2
      · rename_i d hd
        intro c hc
        rcases List.mem_or_eq_of_mem_set hc with h | rfl
        · exact I2 c h
        · have := I d (List.mem_of_getElem? hd)
          simp; omega
  · split
    · exact sub I2 (by simp)
    · split
      · exact sub (sub I2 (by simp)) (by simp)
      · exact sub (sub I2 (by simp [bl])) (by simp [bl])
theorem textM_tx {R C y lo hi ar : Int} : ∀ (xs : List Int) {S : TS} {m : Nat}, 1 ≤ m → (∀ c, c ∈ S.l → c.tx.length ≤ m) → ∀ c, c ∈ (xs.foldl (runeM R C y lo hi ar) S).l → c.tx.length ≤ m + xs.length
  | [], S, m, hm, I => fun c hc => by have := I c hc; simp; omega
  | x :: xs, S, m, hm, I => fun c hc => by
    have h1 := rune_tx (R := R) (C := C) (y := y) (lo := lo) (hi := hi) (ar := ar) (r := x) (S := S) hm I
    have h2 := textM_tx xs (by omega) h1 c hc
    simp only [List.length_cons]; omega
theorem take_snoc {α : Type} {l : List α} {i : Nat} {x : α} (h : l[i]? = some x) : l.take (i + 1) = l.take i ++ [x] := by
  rw [List.take_add_one, h]; rfl
def clipV : Value → Value
  | .slice (some a) n _ => .slice (some a) n (n + 1)
  | _ => .slice none 0 0
theorem clip_own {v : Value} {xs : List Int} {h : Heap} (R : RdI prog h .i32 v xs) : Own prog h.size h 1 (clipV v) xs.length (xs.map (Value.int .i32)) ∧ blkOf (clipV v) = blkOf v := by
  obtain ⟨hl, h2⟩ := R
  rcases h2 with ⟨h0, rfl | rfl⟩ | ⟨b, o, c, k, rfl, hb, hk, hlv, ha, ho, hc⟩
  · have : xs = [] := List.eq_nil_of_length_eq_zero h0
    subst this
    exact ⟨Own.nil0, rfl⟩
  · have : xs = [] := List.eq_nil_of_length_eq_zero h0
    subst this
    exact ⟨Own.nil0, rfl⟩
  · exact ⟨⟨⟨hl, .inr ⟨b, o, xs.length + 1, k, rfl, hb, hk, hlv, ha, ho, hc⟩⟩, .inr (.inl ⟨_, rfl⟩)⟩, rfl⟩
theorem body_clip : hasBody prog 80 = true := by kernel_rfl
theorem call_clip {all : Array Oper} {Q : Exit → Tm → Heap → Prop} {rest : List Oper} {tm : Tm} {h : Heap} {d : Option Tmp} {ty : TypeId} {pos : String} {aft : Array Edge} {args : Array Operand} {ts : Array TypeId} :
    aops prog all Q ({ dst := d, op := .call { callee := .value (.func 80), args := args, argTypes := ts }, type := ty, pos := pos, after := aft, guard := none } :: rest) tm h = ACallsX prog 80 (args.map (ev tm)) h (nextH prog all Q rest tm d) (panicK Q tm) := aops_call body_clip
theorem clipR_ok {v : Value} {xs : List Int} {h : Heap} (R : RdI prog h .i32 v xs) : ACalls prog 80 #[v] h (fun y h' => y = clipV v ∧ h' = h) := by
  refine acalls_of_W func80 rfl (by kernel_rfl) (by kernel_rfl) (by simp [ntmps80]) ?_
  simp only [wk, wt, wl, ↓reduceIte, Nat.reduceEqDiff, Nat.reduceAdd, Nat.zero_add, not_false_eq_true, not_true_eq_false, R.len underlying23]
  obtain ⟨hl, h2⟩ := R
  rcases h2 with ⟨h0, rfl | rfl⟩ | ⟨b, o, c, k, rfl, hb, hk, hlv, ha, ho, hc⟩
  · have : xs = [] := List.eq_nil_of_length_eq_zero h0
    subst this
    have e : aslice prog h 23 (.slice none 0 0) none (some (.int .i64 ((([] : List Int).length : Nat) : Int))) (some (.int .i64 ((([] : List Int).length : Nat) : Int))) = some (.slice none 0 0) := by
      simp [aslice, underlying23, asz21, boundOf]
    rw [e]
    simp only [wk, wt, wl, ↓reduceIte, Nat.reduceEqDiff, Nat.reduceAdd, Nat.zero_add, not_false_eq_true, not_true_eq_false, clipV]
    all_goals exact ⟨rfl, trivial⟩
  · have : xs = [] := List.eq_nil_of_length_eq_zero h0
    subst this
    have e : aslice prog h 23 (.slice none 0 1) none (some (.int .i64 ((([] : List Int).length : Nat) : Int))) (some (.int .i64 ((([] : List Int).length : Nat) : Int))) = some (.slice none 0 0) := by
      simp [aslice, underlying23, asz21, boundOf]
    rw [e]
    simp only [wk, wt, wl, ↓reduceIte, Nat.reduceEqDiff, Nat.reduceAdd, Nat.zero_add, not_false_eq_true, not_true_eq_false, clipV]
    all_goals exact ⟨rfl, trivial⟩
  · have hm : (xs.length : Int) ≤ ((if c = 0 then xs.length else max xs.length (c - 1) : Nat) : Int) := by split <;> omega
    have e : aslice prog h 23 (.slice (some ⟨b, o, none⟩) xs.length c) none (some (.int .i64 (xs.length : Int))) (some (.int .i64 (xs.length : Int))) = some (.slice (some ⟨b, o, none⟩) xs.length (xs.length + 1)) := by
      simp [aslice, underlying23, asz21, hk, ha, boundOf, hm]
    rw [e]
    simp only [wk, wt, wl, ↓reduceIte, Nat.reduceEqDiff, Nat.reduceAdd, Nat.zero_add, not_false_eq_true, not_true_eq_false, clipV]
    all_goals exact ⟨rfl, trivial⟩
/-- A rune behind a text that is cut to its length: a text of its own. -/
theorem clip_app {h : Heap} {tv : Value} {xs : List Int} {r : Int} (H : Wf h) (R : RdI prog h .i32 tv xs) (hb : xs.length ≤ 10000100000000) :
    ∃ v' h', aappend prog (h.new 21 [.int .i32 r]) 23 23 (clipV tv) (.slice (some ⟨h.size, 0, none⟩) 1 2) = some (v', h') ∧ RdI prog h' .i32 v' (xs ++ [r]) ∧ Keeps h h' ∧ Reads (h.new 21 [.int .i32 r]) h' := by
  obtain ⟨O, hbk⟩ := clip_own R
  have N := Keeps.new H 21 [.int .i32 r]
  have X : Rd prog (h.new 21 [.int .i32 r]) 1 (.slice (some ⟨h.size, 0, none⟩) 1 2) 1 [.int .i32 r] := Rd.new H asz21 rfl
  obtain ⟨v', h', e1, O1, R1, C1, _⟩ := Own.appendRd (Ch.wf N) (Ch.le N) (O.keeps N) underlying23 underlying23 rfl elem21 fits21 (by decide) X (by omega)
  refine ⟨v', h', e1, ?_, N.step C1 fun b e => e.2, R1⟩
  have := O1.1
  unfold RdI
  rw [List.length_append, List.map_append]; exact this
end Go.Proofs.YtcgajolmjjeibaaDoor.Am
end
section
/- Grids, the program: the contracts of text and units, by walks. -/
set_option linter.unusedSimpArgs false
set_option linter.unusedVariables false
set_option maxHeartbeats 4000000
set_option maxRecDepth 20000
namespace Go.Proofs.YtcgajolmjjeibaaDoor.Am
open Go Go.RowKit Go.Proofs.Tryd
section
variable {h0 h h' : Heap} {cb kb pb : Nat} {R C y lo hi col ar : Int} {l : List Cel} {D : Nat → Prop} {last : Option Nat}
/-- A pen's fields set. -/
theorem PN.setLast (N : PN h pb cb kb y lo hi col ar last) (H : Wf h) (o : Option Nat) : ∃ h1, storeV prog h 125 (.pointer (some ⟨pb, 6, none⟩)) (lastV kb o) = some (undef, h1) ∧ PN h1 pb cb kb y lo hi col ar o ∧ Ch (fun b => b = pb) h h1 ∧ h1.size = h.size := by
  obtain ⟨h1, q1, q2, q3, q4⟩ := N.V.store1 H (t := 125) (v := lastV kb o) (i := 6) asz125 (by simp [penC]) one_lastV
  exact ⟨h1, q1, ⟨q2, N.n⟩, q3, q4⟩
theorem PN.setCol (N : PN h pb cb kb y lo hi col ar last) (H : Wf h) (z : Int) : ∃ h1, storeV prog h 3 (.pointer (some ⟨pb, 4, none⟩)) (.int .i64 z) = some (undef, h1) ∧ PN h1 pb cb kb y lo hi z ar last ∧ Ch (fun b => b = pb) h h1 ∧ h1.size = h.size := by
  obtain ⟨h1, q1, q2, q3, q4⟩ := N.V.store1 H (t := 3) (v := .int .i64 z) (i := 4) asz3 (by simp [penC]) rfl
  exact ⟨h1, q1, ⟨q2, N.n⟩, q3, q4⟩
theorem PN.setAr (N : PN h pb cb kb y lo hi col ar last) (H : Wf h) (z : Int) : ∃ h1, storeV prog h 3 (.pointer (some ⟨pb, 5, none⟩)) (.int .i64 z) = some (undef, h1) ∧ PN h1 pb cb kb y lo hi col z last ∧ Ch (fun b => b = pb) h h1 ∧ h1.size = h.size := by
  obtain ⟨h1, q1, q2, q3, q4⟩ := N.V.store1 H (t := 3) (v := .int .i64 z) (i := 5) asz3 (by simp [penC]) rfl
  exact ⟨h1, q1, ⟨q2, N.n⟩, q3, q4⟩
/-- Rows that are read stay, where cells and the pen change. -/
theorem keepDP {s n : Nat} {v : Value} {xs : List Value} (N : PN h pb cb kb y lo hi col ar last) (S : DS h0 h cb kb R C l) (H : Ch (DP kb pb) h h') (X : Rd prog h s v n xs) (h3 : s ≠ 3) (h7 : s ≠ 7) : Rd prog h' s v n xs := Ch.rd H X fun b hb d => by
  obtain ⟨cs, W⟩ := S.G.var
  rcases d with rfl | rfl
  · exact Rd.elsewhere X W asz63 (fun e => h3 e.symm) hb
  · exact Rd.elsewhere X N.V asz127 (fun e => h7 e.symm) hb
end
theorem text_ok {h0 h : Heap} {cb kb pb : Nat} {R C y lo hi col ar : Int} {l : List Cel} {last : Option Nat} {lv : Value} {xs : List Int} (gl : Gl h0) (S : DS h0 h cb kb R C l) (N : PN h pb cb kb y lo hi col ar last) (hp0 : h0.size ≤ pb) (hl : 0 ≤ lo) (hhC : hi ≤ C) (X : RdI prog h .i32 lv xs) (hx : ∀ x, x ∈ xs → isR x) (hxl : xs.length ≤ 1000000) (hc : -1000000000000000 ≤ col ∧ col ≤ 1000000000000000) (hcl : ∀ c, c ∈ l → c.tx.length ≤ 10000000000000) :
    ACalls prog 68 #[pt pb, lv] h (fun v h' => v = pt pb ∧ DS h0 h' cb kb R C (textM R C y lo hi ar l col xs).l ∧ PN h' pb cb kb y lo hi (textM R C y lo hi ar l col xs).col ar (textM R C y lo hi ar l col xs).last ∧ Ch (DP kb pb) h h') := by
  refine acalls_of_W' func68 rfl (by kernel_rfl) (by kernel_rfl) (by simp [ntmps68]) ?_
  intro H
  have hm := S.i.2.2.2.2
  obtain ⟨h1, e1, N1, C1, z1⟩ := N.setLast H none
  have S1 := S.ch C1 (N.oth hp0)
  have C01 : Ch (DP kb pb) h h1 := C1.mono fun b e => .inr e
  have X1 := keepDP N S C01 X (by decide) (by decide)
  have LN := X.ln (n := (xs.length : Int)) rfl
  have e1' : storeV prog h 125 (.pointer (some ⟨pb, 6, none⟩)) (.pointer none) = some (undef, h1) := e1
  simp only [wk, wt, wl, ↓reduceIte, Nat.reduceEqDiff, Nat.reduceAdd, Nat.zero_add, not_false_eq_true, not_true_eq_false, pt, e1', LN]
  refine W_loop (fun tm hh => tm 0 = pt pb ∧ tm 13 = lv ∧ tm 14 = .int .i64 (xs.length : Int) ∧ ∃ i : Nat, tm 15 = .int .i64 (i : Int) ∧ i ≤ xs.length ∧ DS h0 hh cb kb R C (textM R C y lo hi ar l col (xs.take i)).l ∧ PN hh pb cb kb y lo hi (textM R C y lo hi ar l col (xs.take i)).col ar (textM R C y lo hi ar l col (xs.take i)).last ∧ Ch (DP kb pb) h hh)
    (fun tm _ => (xs.length - intOf (tm 15)).toNat) ⟨(by first | rfl | (simp only [wk, wt, wl, ↓reduceIte, Nat.reduceEqDiff, Nat.reduceAdd, Nat.zero_add, not_false_eq_true, not_true_eq_false]; done) | (simp only [wk, wt, wl, ↓reduceIte, Nat.reduceEqDiff, Nat.reduceAdd, Nat.zero_add, not_false_eq_true, not_true_eq_false]; rfl) | (simp only [wk, wt, wl, ↓reduceIte, Nat.reduceEqDiff, Nat.reduceAdd, Nat.zero_add, not_false_eq_true, not_true_eq_false, pt]; done) | (simp only [wk, wt, wl, ↓reduceIte, Nat.reduceEqDiff, Nat.reduceAdd, Nat.zero_add, not_false_eq_true, not_true_eq_false, pt]; rfl)), (by first | rfl | (simp only [wk, wt, wl, ↓reduceIte, Nat.reduceEqDiff, Nat.reduceAdd, Nat.zero_add, not_false_eq_true, not_true_eq_false]; done) | (simp only [wk, wt, wl, ↓reduceIte, Nat.reduceEqDiff, Nat.reduceAdd, Nat.zero_add, not_false_eq_true, not_true_eq_false]; rfl)), (by first | rfl | (simp only [wk, wt, wl, ↓reduceIte, Nat.reduceEqDiff, Nat.reduceAdd, Nat.zero_add, not_false_eq_true, not_true_eq_false]; done) | (simp only [wk, wt, wl, ↓reduceIte, Nat.reduceEqDiff, Nat.reduceAdd, Nat.zero_add, not_false_eq_true, not_true_eq_false]; rfl)), 0, (by first | rfl | (simp only [wk, wt, wl, ↓reduceIte, Nat.reduceEqDiff, Nat.reduceAdd, Nat.zero_add, not_false_eq_true, not_true_eq_false]; done) | (simp only [wk, wt, wl, ↓reduceIte, Nat.reduceEqDiff, Nat.reduceAdd, Nat.zero_add, not_false_eq_true, not_true_eq_false]; rfl)), by omega, by simpa [textM] using S1, by simpa [textM] using N1, C01⟩ ?_
  clear S1 N1 C01 X1 e1 e1' C1
  rintro tm hh ⟨t0, t13, t14, i, t15, hi2, S2, N2, C2⟩
  simp only [wk, wt, wl, ↓reduceIte, Nat.reduceEqDiff, Nat.reduceAdd, Nat.zero_add, not_false_eq_true, not_true_eq_false, t0, t13, t14, t15]
  refine condK_dec (fun hd => ?_) (fun hd => ?_)
  case refine_2 =>
    have : i = xs.length := by omega
    rw [this, List.take_length] at S2 N2
    simp only [wk, wt, wl, ↓reduceIte, Nat.reduceEqDiff, Nat.reduceAdd, Nat.zero_add, not_false_eq_true, not_true_eq_false, t0]
    exact ⟨rfl, S2, N2, C2⟩
  have hix : i < xs.length := by omega
  obtain ⟨x, hxi⟩ : ∃ x, xs[i]? = some x := ⟨_, List.getElem?_eq_getElem hix⟩
  have hsn : textM R C y lo hi ar l col (xs.take (i + 1)) = runeM R C y lo hi ar (textM R C y lo hi ar l col (xs.take i)) x := by
    rw [take_snoc hxi]; simp [textM]
  have IV := text_inv (y := y) (ar := ar) hl hhC hm (xs.take i) (S := ⟨l, col, none⟩) ⟨rfl, fun j e => by cases e⟩
  have IV' : TI l.length (textM R C y lo hi ar l col (xs.take i)) ∧ col ≤ (textM R C y lo hi ar l col (xs.take i)).col ∧ (textM R C y lo hi ar l col (xs.take i)).col ≤ col + 2 * (xs.take i).length := IV
  clear IV
  rw [List.length_take] at IV'
  have hgrow := textM_tx (R := R) (C := C) (y := y) (lo := lo) (hi := hi) (ar := ar) (xs.take i) (S := ⟨l, col, none⟩) (m := 10000000000000) (by omega) hcl
  have hgrow' : ∀ c, c ∈ (textM R C y lo hi ar l col (xs.take i)).l → c.tx.length ≤ 10000000000000 + (xs.take i).length := hgrow
  clear hgrow
  rw [List.length_take] at hgrow'
  generalize textM R C y lo hi ar l col (xs.take i) = T at *
  have hx32 := hx x (List.mem_of_getElem? hxi)
  have X2 : RdI prog hh .i32 lv xs := keepDP N S C2 X (by decide) (by decide)
  have IX := (X2.ix hxi).1
  have LX := (X2.ix hxi).2
  obtain ⟨n0, n1, n2, n3, n4, n5, n6⟩ := N2.loads
  have G2 := gl.keeps S2.K
  have wr := widthZ_range x
  have hTl := IV'.1.len
  have w1 : IntKind.i64.wrap (T.col + 1) = T.col + 1 := IntWalk.i64_in _ (by omega)
  have w2 : IntKind.i64.wrap (T.col + widthZ x) = T.col + widthZ x := IntWalk.i64_in _ (by omega)
  have wi : IntKind.i64.wrap ((i : Int) + 1) = ((i + 1 : Nat) : Int) := by rw [IntWalk.i64_in _ (by omega)]; omega
  have hcm : ∀ z j, cellM R C y lo hi z = some j → j < T.l.length := fun z j e => by rw [hTl]; exact (cellM_lt e hl hhC hm).1
  simp only [wk, wt, wl, ↓reduceIte, Nat.reduceEqDiff, Nat.reduceAdd, Nat.zero_add, not_false_eq_true, not_true_eq_false, t0, t13, t14, t15, IX, LX]
  refine adraw_order [(0, false), (1, false), (2, false), (3, false), (4, false), (6, false), (7, false), (8, false), (9, false), (10, false), (11, false), (5, true), (12, true), (13, false), (14, false)] mixed (by kernel_rfl) (by kernel_rfl) (by kernel_rfl) (by with_reducible repeat (first | exact PF_retK | refine PF_thenK ?_ | refine PF_blockK ?_)) ?_
  simp only [wk, wt, wl, ↓reduceIte, Nat.reduceEqDiff, Nat.reduceAdd, Nat.zero_add, not_false_eq_true, not_true_eq_false, dK_t, t0, t13, t14, t15, pt, n4, w1]
  refine (cell_ok S2 N2 hl hhC).use_pure ?_
  simp only [wk, wt, wl, ↓reduceIte, Nat.reduceEqDiff, Nat.reduceAdd, Nat.zero_add, not_false_eq_true, not_true_eq_false, dK_t]
  refine ⟨Reads.refl _, ?_⟩
  refine (cell_ok S2 N2 hl hhC).use_pure ?_
  simp only [wk, wt, wl, ↓reduceIte, Nat.reduceEqDiff, Nat.reduceAdd, Nat.zero_add, not_false_eq_true, not_true_eq_false, dK_t]
  refine ⟨Reads.refl _, ?_⟩
  refine (width_ok hx32 G2).use_pure ?_
  have ptr0 : abin prog .neq 125 (.pointer none) (.pointer none) = some (.bool false) := by simp [abin, aeq, underlying125]
  have ptr1 : ∀ a : Addr, abin prog .neq 125 (.pointer (some a)) (.pointer none) = some (.bool true) := fun a => by simp [abin, aeq, underlying125]
  by_cases c0 : widthZ x = 0
  · have d0 := decide_eq_true c0
    cases hlast : T.last with
    | none =>
      rw [hlast] at n6
      have hE : runeM R C y lo hi ar T x = T := by unfold runeM; rw [if_pos c0, hlast]
      simp only [wk, wt, wl, ↓reduceIte, Nat.reduceEqDiff, Nat.reduceAdd, Nat.zero_add, not_false_eq_true, not_true_eq_false, t0, t13, t14, t15, pt, d0, n6, lastV, ptr0, wi, intOf_int]
      exact ⟨⟨i + 1, rfl, by omega, by rw [hsn, hE]; exact S2, by rw [hsn, hE]; exact N2, C2⟩, by omega⟩
    | some j =>
      rw [hlast] at n6
      have hj : j < T.l.length := by rw [hTl]; exact IV'.1.last j hlast
      obtain ⟨c, hc1⟩ : ∃ c, T.l[j]? = some c := ⟨_, List.getElem?_eq_getElem hj⟩
      obtain ⟨tv, TV, l0, _, _⟩ := S2.G.at hc1
      have hE : runeM R C y lo hi ar T x = ⟨T.l.set j { c with tx := c.tx ++ [x] }, T.col, T.last⟩ := by unfold runeM; rw [if_pos c0, hlast]; simp [addM, hc1]
      have hclen := hgrow' c (List.mem_of_getElem? hc1)
      obtain ⟨v4, h4, e4, T4, K4, R4⟩ := clip_app (r := x) (Ch.wf C2) TV (by omega)
      have S4 := S2.keeps K4
      obtain ⟨h5, e5, G5, C5, z5⟩ := S4.G.text (Ch.wf K4) hc1 T4
      have C45 : Ch (fun b => b = kb) hh h5 := (K4.mono fun _ e => e.elim).then C5 fun b e => .inr e
      have S5 : DS h0 h5 cb kb R C (T.l.set j { c with tx := c.tx ++ [x] }) := ⟨S2.K.step C45 fun b e => by have := S2.o; omega, by have := S2.V.ch (Ch.wf C2) C45 S2.o.2.2; simpa using this, G5, S2.o, by have := S2.i; simpa using this⟩
      have N5 := N2.ch (Ch.wf C2) C45 N2.n.2
      have C25 := C2.then C45 fun b e => .inr (.inl e)
      simp only [wk, wt, wl, ↓reduceIte, Nat.reduceEqDiff, Nat.reduceAdd, Nat.zero_add, not_false_eq_true, not_true_eq_false, t0, t13, t14, t15, pt, d0, n6, lastV, ptr1]
      refine adraw_two [(0, false), (1, false), (2, false), (3, false), (4, false), (5, false), (6, false), (7, false), (8, false), (9, false), (10, false), (12, false)] 11 13 [(13, true), (14, true), (15, false), (16, false), (17, false)] [(11, true), (14, true), (15, false), (16, false), (17, false)] mixed (by kernel_rfl) rfl rfl rfl (by kernel_rfl) (by kernel_rfl) (by with_reducible repeat (first | exact PF_retK | refine PF_thenK ?_ | refine PF_blockK ?_)) ?_
      simp only [wk, wt, wl, ↓reduceIte, Nat.reduceEqDiff, Nat.reduceAdd, Nat.zero_add, not_false_eq_true, not_true_eq_false, DRp_nil, DRp_cons', drpK_some, dK_t, call_clip, t0, t13, t14, t15, pt, n6, lastV, Nat.add_zero, l0]
      have NX := Keeps.new (Ch.wf C2) 21 [.int .i32 x]
      refine ⟨?_, NX.reads (Ch.wf C2), ?_⟩
      · refine (clipR_ok TV).use_pure ?_
        simp only [wk, wt, wl, ↓reduceIte, Nat.reduceEqDiff, Nat.reduceAdd, Nat.zero_add, not_false_eq_true, not_true_eq_false, dK_t, t0, t13, t14, t15, pt, e4, Nat.add_zero, e5, wi, intOf_int]
        exact ⟨Reads.refl _, NX.reads (Ch.wf C2), R4, ⟨i + 1, rfl, by omega, by rw [hsn, hE]; exact S5, by rw [hsn, hE]; exact N5, C25⟩, by omega⟩
      · refine (clipR_ok (TV.keeps NX)).use_pure ?_
        simp only [wk, wt, wl, ↓reduceIte, Nat.reduceEqDiff, Nat.reduceAdd, Nat.zero_add, not_false_eq_true, not_true_eq_false, dK_t, t0, t13, t14, t15, pt, e4, Nat.add_zero, e5, wi, intOf_int]
        exact ⟨Reads.refl _, R4, ⟨i + 1, rfl, by omega, by rw [hsn, hE]; exact S5, by rw [hsn, hE]; exact N5, C25⟩, by omega⟩
  have d0 := decide_eq_false c0
  by_cases c1 : widthZ x = 1
  · have d1 := decide_eq_true c1
    have K3 := Keeps.new (Ch.wf C2) 21 [.int .i32 x]
    have T3 : RdI prog (hh.new 21 [.int .i32 x]) .i32 (.slice (some ⟨hh.size, 0, none⟩) 1 2) [x] := Rd.new (Ch.wf C2) asz21 rfl
    have bc : abuild prog 63 #[(0, .slice (some ⟨hh.size, 0, none⟩) 1 2), (1, .int .i64 ar)] = some (.agg #[.slice (some ⟨hh.size, 0, none⟩) 1 2, .int .i64 ar, .bool false]) := by simp [abuild, wt, aplaces, Instr.fill, Value.cells]
    have S3 := S2.keeps K3
    have N3 := N2.ch (Ch.wf C2) K3 id
    obtain ⟨_, _, _, _, _, q5, _⟩ := N3.loads
    have hE : runeM R C y lo hi ar T x = ⟨putM T.l (cellM R C y lo hi T.col) ⟨[x], ar, false⟩, T.col + widthZ x, cellM R C y lo hi T.col⟩ := by unfold runeM; rw [if_neg c0, if_pos c1, c1]
    simp only [wk, wt, wl, ↓reduceIte, Nat.reduceEqDiff, Nat.reduceAdd, Nat.zero_add, not_false_eq_true, not_true_eq_false, t0, t13, t14, t15, pt, d0, d1, q5, bc]
    refine (put_ok (c := ⟨[x], ar, false⟩) S3 N3 (hcm _) T3).use ?_
    rintro _ h6 ⟨S6, N6, C6⟩
    have C06 := (C2.then K3 fun b e => e.elim).then C6 fun b e => .inr (.inl e)
    cases hA : cellM R C y lo hi T.col with
    | none =>
      rw [hA] at hE S6
      obtain ⟨h7, e7, N7, C7, z7⟩ := (N6).setLast (Ch.wf C06) none
      have S7 := (S6).ch C7 ((N6).oth hp0)
      have C07 := (C06).then C7 fun b e => .inr (.inr e)
      have G7 := gl.keeps S7.K
      obtain ⟨_, _, _, _, m4, _, _⟩ := N7.loads
      obtain ⟨h8, e8, N8, C8, z8⟩ := N7.setCol (Ch.wf C07) (T.col + widthZ x)
      have S8 := S7.ch C8 (N7.oth hp0)
      have C08 := C07.then C8 fun b e => .inr (.inr e)
      have e7' : storeV prog h6 125 (.pointer (some ⟨pb, 6, none⟩)) (.pointer none) = some (undef, h7) := e7
      simp only [wk, wt, wl, ↓reduceIte, Nat.reduceEqDiff, Nat.reduceAdd, Nat.zero_add, not_false_eq_true, not_true_eq_false, t0, t13, t14, t15, pt, lastV, e7']
      refine adraw_order [(0, false), (1, false), (2, false), (3, false), (4, false), (5, true), (6, false), (7, false), (8, false), (9, false)] mixed (by kernel_rfl) (by kernel_rfl) (by kernel_rfl) (by with_reducible repeat (first | exact PF_retK | refine PF_thenK ?_ | refine PF_blockK ?_)) ?_
      simp only [wk, wt, wl, ↓reduceIte, Nat.reduceEqDiff, Nat.reduceAdd, Nat.zero_add, not_false_eq_true, not_true_eq_false, dK_t, t0, t13, t14, t15, pt, m4]
      refine (width_ok hx32 G7).use_pure ?_
      simp only [wk, wt, wl, ↓reduceIte, Nat.reduceEqDiff, Nat.reduceAdd, Nat.zero_add, not_false_eq_true, not_true_eq_false, dK_t]
      refine ⟨Reads.refl _, ?_⟩
      simp only [wk, wt, wl, ↓reduceIte, Nat.reduceEqDiff, Nat.reduceAdd, Nat.zero_add, not_false_eq_true, not_true_eq_false, dK_t, t0, t13, t14, t15, pt, w2, e8, wi, intOf_int]
      exact ⟨⟨i + 1, rfl, by omega, by rw [hsn, hE]; exact S8, by rw [hsn, hE]; exact N8, C08⟩, by omega⟩
    | some j =>
      rw [hA] at hE S6
      obtain ⟨h7, e7, N7, C7, z7⟩ := (N6).setLast (Ch.wf C06) (some j)
      have S7 := (S6).ch C7 ((N6).oth hp0)
      have C07 := (C06).then C7 fun b e => .inr (.inr e)
      have G7 := gl.keeps S7.K
      obtain ⟨_, _, _, _, m4, _, _⟩ := N7.loads
      obtain ⟨h8, e8, N8, C8, z8⟩ := N7.setCol (Ch.wf C07) (T.col + widthZ x)
      have S8 := S7.ch C8 (N7.oth hp0)
      have C08 := C07.then C8 fun b e => .inr (.inr e)
      have e7' : storeV prog h6 125 (.pointer (some ⟨pb, 6, none⟩)) (.pointer (some ⟨kb, j * 3, none⟩)) = some (undef, h7) := e7
      simp only [wk, wt, wl, ↓reduceIte, Nat.reduceEqDiff, Nat.reduceAdd, Nat.zero_add, not_false_eq_true, not_true_eq_false, t0, t13, t14, t15, pt, lastV, e7']
      refine adraw_order [(0, false), (1, false), (2, false), (3, false), (4, false), (5, true), (6, false), (7, false), (8, false), (9, false)] mixed (by kernel_rfl) (by kernel_rfl) (by kernel_rfl) (by with_reducible repeat (first | exact PF_retK | refine PF_thenK ?_ | refine PF_blockK ?_)) ?_
      simp only [wk, wt, wl, ↓reduceIte, Nat.reduceEqDiff, Nat.reduceAdd, Nat.zero_add, not_false_eq_true, not_true_eq_false, dK_t, t0, t13, t14, t15, pt, m4]
      refine (width_ok hx32 G7).use_pure ?_
      simp only [wk, wt, wl, ↓reduceIte, Nat.reduceEqDiff, Nat.reduceAdd, Nat.zero_add, not_false_eq_true, not_true_eq_false, dK_t]
      refine ⟨Reads.refl _, ?_⟩
      simp only [wk, wt, wl, ↓reduceIte, Nat.reduceEqDiff, Nat.reduceAdd, Nat.zero_add, not_false_eq_true, not_true_eq_false, dK_t, t0, t13, t14, t15, pt, w2, e8, wi, intOf_int]
      exact ⟨⟨i + 1, rfl, by omega, by rw [hsn, hE]; exact S8, by rw [hsn, hE]; exact N8, C08⟩, by omega⟩
  have d1 := decide_eq_false c1
  have c2 : widthZ x = 2 := by omega
  cases hA : cellM R C y lo hi T.col with
  | some j =>
    cases hB : cellM R C y lo hi (T.col + 1) with
    | some j2 =>
      have K3 := Keeps.new (Ch.wf C2) 21 [.int .i32 x]
      have T3 : RdI prog (hh.new 21 [.int .i32 x]) .i32 (.slice (some ⟨hh.size, 0, none⟩) 1 2) [x] := Rd.new (Ch.wf C2) asz21 rfl
      have bc : abuild prog 63 #[(0, .slice (some ⟨hh.size, 0, none⟩) 1 2), (1, .int .i64 ar), (2, .bool true)] = some (.agg #[.slice (some ⟨hh.size, 0, none⟩) 1 2, .int .i64 ar, .bool true]) := by simp [abuild, wt, aplaces, Instr.fill, Value.cells]
      have bd : abuild prog 63 #[(1, .int .i64 ar)] = some (.agg #[.slice none 0 0, .int .i64 ar, .bool false]) := by simp [abuild, wt, aplaces, Instr.fill, Value.cells]
      have S3 := S2.keeps K3
      have N3 := N2.ch (Ch.wf C2) K3 id
      obtain ⟨_, _, _, _, _, q5, _⟩ := N3.loads
      have hE : runeM R C y lo hi ar T x = ⟨putM (putM T.l (some j) ⟨[x], ar, true⟩) (some j2) ⟨[], ar, false⟩, T.col + widthZ x, some j⟩ := by unfold runeM; rw [if_neg c0, if_neg c1, hA, hB, if_pos ⟨rfl, rfl⟩, c2]
      simp only [wk, wt, wl, ↓reduceIte, Nat.reduceEqDiff, Nat.reduceAdd, Nat.zero_add, not_false_eq_true, not_true_eq_false, t0, t13, t14, t15, pt, d0, d1, lastV, ptr1, q5, bc]
      refine (put_ok (o := some j) (c := ⟨[x], ar, true⟩) S3 N3 (fun q e => hcm _ q (by rw [hA]; exact e)) T3).use ?_
      rintro _ h5 ⟨S5, N5, C5⟩
      obtain ⟨_, _, _, _, _, q5', _⟩ := N5.loads
      simp only [wk, wt, wl, ↓reduceIte, Nat.reduceEqDiff, Nat.reduceAdd, Nat.zero_add, not_false_eq_true, not_true_eq_false, t0, t13, t14, t15, pt, q5', bd]
      refine (put_ok (o := some j2) (c := ⟨[], ar, false⟩) S5 N5 (fun q e => by rw [putM_len]; exact hcm _ q (by rw [hB]; exact e)) Rd.nil0).use ?_
      rintro _ h6 ⟨S6, N6, C6⟩
      have C06 := ((C2.then K3 fun b e => e.elim).then C5 fun b e => .inr (.inl e)).then C6 fun b e => .inr (.inl e)
      obtain ⟨h7, e7, N7, C7, z7⟩ := (N6).setLast (Ch.wf C06) (some j)
      have S7 := (S6).ch C7 ((N6).oth hp0)
      have C07 := (C06).then C7 fun b e => .inr (.inr e)
      have G7 := gl.keeps S7.K
      obtain ⟨_, _, _, _, m4, _, _⟩ := N7.loads
      obtain ⟨h8, e8, N8, C8, z8⟩ := N7.setCol (Ch.wf C07) (T.col + widthZ x)
      have S8 := S7.ch C8 (N7.oth hp0)
      have C08 := C07.then C8 fun b e => .inr (.inr e)
      have e7' : storeV prog h6 125 (.pointer (some ⟨pb, 6, none⟩)) (.pointer (some ⟨kb, j * 3, none⟩)) = some (undef, h7) := e7
      simp only [wk, wt, wl, ↓reduceIte, Nat.reduceEqDiff, Nat.reduceAdd, Nat.zero_add, not_false_eq_true, not_true_eq_false, t0, t13, t14, t15, pt, lastV, e7']
      refine adraw_order [(0, false), (1, false), (2, false), (3, false), (4, false), (5, true), (6, false), (7, false), (8, false), (9, false)] mixed (by kernel_rfl) (by kernel_rfl) (by kernel_rfl) (by with_reducible repeat (first | exact PF_retK | refine PF_thenK ?_ | refine PF_blockK ?_)) ?_
      simp only [wk, wt, wl, ↓reduceIte, Nat.reduceEqDiff, Nat.reduceAdd, Nat.zero_add, not_false_eq_true, not_true_eq_false, dK_t, t0, t13, t14, t15, pt, m4]
      refine (width_ok hx32 G7).use_pure ?_
      simp only [wk, wt, wl, ↓reduceIte, Nat.reduceEqDiff, Nat.reduceAdd, Nat.zero_add, not_false_eq_true, not_true_eq_false, dK_t]
      refine ⟨Reads.refl _, ?_⟩
      simp only [wk, wt, wl, ↓reduceIte, Nat.reduceEqDiff, Nat.reduceAdd, Nat.zero_add, not_false_eq_true, not_true_eq_false, dK_t, t0, t13, t14, t15, pt, w2, e8, wi, intOf_int]
      exact ⟨⟨i + 1, rfl, by omega, by rw [hsn, hE]; exact S8, by rw [hsn, hE]; exact N8, C08⟩, by omega⟩
    | none =>
      have hE : runeM R C y lo hi ar T x = ⟨putM (putM T.l (some j) (bl ar)) none (bl ar), T.col + widthZ x, none⟩ := by unfold runeM; rw [if_neg c0, if_neg c1, hA, hB, if_neg (fun e => by cases e.2), c2]
      simp only [wk, wt, wl, ↓reduceIte, Nat.reduceEqDiff, Nat.reduceAdd, Nat.zero_add, not_false_eq_true, not_true_eq_false, t0, t13, t14, t15, pt, d0, d1, lastV, ptr0, ptr1]
      simp only [wk, wt, wl, ↓reduceIte, Nat.reduceEqDiff, Nat.reduceAdd, Nat.zero_add, not_false_eq_true, not_true_eq_false, t0, pt, n5]
      refine (blank_ok (a := ar)).use ?_
      rintro _ h3 ⟨tv3, rfl, T3, _, K3⟩
      have S3 := S2.keeps K3
      have N3 := N2.ch (Ch.wf C2) K3 id
      simp only [wk, wt, wl, ↓reduceIte, Nat.reduceEqDiff, Nat.reduceAdd, Nat.zero_add, not_false_eq_true, not_true_eq_false]
      refine (put_ok (o := (some j)) (c := bl ar) S3 N3 (fun q e => hcm _ q (by rw [hA]; exact e)) T3).use ?_
      rintro _ h4 ⟨S4, N4, C4⟩
      obtain ⟨_, _, _, _, _, q5, _⟩ := N4.loads
      simp only [wk, wt, wl, ↓reduceIte, Nat.reduceEqDiff, Nat.reduceAdd, Nat.zero_add, not_false_eq_true, not_true_eq_false, t0, pt, q5]
      refine (blank_ok (a := ar)).use ?_
      rintro _ h5 ⟨tv5, rfl, T5, _, K5⟩
      have S5 := S4.keeps K5
      have C04 := (C2.then K3 fun b e => e.elim).then C4 fun b e => .inr (.inl e)
      have N5 := N4.ch (Ch.wf C04) K5 id
      simp only [wk, wt, wl, ↓reduceIte, Nat.reduceEqDiff, Nat.reduceAdd, Nat.zero_add, not_false_eq_true, not_true_eq_false]
      refine (put_ok (o := none) (c := bl ar) S5 N5 (fun q e => by rw [putM_len]; exact hcm _ q (by rw [hB]; exact e)) T5).use ?_
      rintro _ h6 ⟨S6, N6, C6⟩
      have C06 := (C04.then K5 fun b e => e.elim).then C6 fun b e => .inr (.inl e)
      obtain ⟨h7, e7, N7, C7, z7⟩ := (N6).setLast (Ch.wf C06) none
      have S7 := (S6).ch C7 ((N6).oth hp0)
      have C07 := (C06).then C7 fun b e => .inr (.inr e)
      have G7 := gl.keeps S7.K
      obtain ⟨_, _, _, _, m4, _, _⟩ := N7.loads
      obtain ⟨h8, e8, N8, C8, z8⟩ := N7.setCol (Ch.wf C07) (T.col + widthZ x)
      have S8 := S7.ch C8 (N7.oth hp0)
      have C08 := C07.then C8 fun b e => .inr (.inr e)
      have e7' : storeV prog h6 125 (.pointer (some ⟨pb, 6, none⟩)) (.pointer none) = some (undef, h7) := e7
      simp only [wk, wt, wl, ↓reduceIte, Nat.reduceEqDiff, Nat.reduceAdd, Nat.zero_add, not_false_eq_true, not_true_eq_false, t0, t13, t14, t15, pt, lastV, e7']
      refine adraw_order [(0, false), (1, false), (2, false), (3, false), (4, false), (5, true), (6, false), (7, false), (8, false), (9, false)] mixed (by kernel_rfl) (by kernel_rfl) (by kernel_rfl) (by with_reducible repeat (first | exact PF_retK | refine PF_thenK ?_ | refine PF_blockK ?_)) ?_
      simp only [wk, wt, wl, ↓reduceIte, Nat.reduceEqDiff, Nat.reduceAdd, Nat.zero_add, not_false_eq_true, not_true_eq_false, dK_t, t0, t13, t14, t15, pt, m4]
      refine (width_ok hx32 G7).use_pure ?_
      simp only [wk, wt, wl, ↓reduceIte, Nat.reduceEqDiff, Nat.reduceAdd, Nat.zero_add, not_false_eq_true, not_true_eq_false, dK_t]
      refine ⟨Reads.refl _, ?_⟩
      simp only [wk, wt, wl, ↓reduceIte, Nat.reduceEqDiff, Nat.reduceAdd, Nat.zero_add, not_false_eq_true, not_true_eq_false, dK_t, t0, t13, t14, t15, pt, w2, e8, wi, intOf_int]
      exact ⟨⟨i + 1, rfl, by omega, by rw [hsn, hE]; exact S8, by rw [hsn, hE]; exact N8, C08⟩, by omega⟩
  | none =>
    cases hB : cellM R C y lo hi (T.col + 1) with
    | some j2 =>
      have hE : runeM R C y lo hi ar T x = ⟨putM (putM T.l none (bl ar)) (some j2) (bl ar), T.col + widthZ x, none⟩ := by unfold runeM; rw [if_neg c0, if_neg c1, hA, hB, if_neg (fun e => by cases e.1), c2]
      simp only [wk, wt, wl, ↓reduceIte, Nat.reduceEqDiff, Nat.reduceAdd, Nat.zero_add, not_false_eq_true, not_true_eq_false, t0, t13, t14, t15, pt, d0, d1, lastV, ptr0, ptr1]
      simp only [wk, wt, wl, ↓reduceIte, Nat.reduceEqDiff, Nat.reduceAdd, Nat.zero_add, not_false_eq_true, not_true_eq_false, t0, pt, n5]
      refine (blank_ok (a := ar)).use ?_
      rintro _ h3 ⟨tv3, rfl, T3, _, K3⟩
      have S3 := S2.keeps K3
      have N3 := N2.ch (Ch.wf C2) K3 id
      simp only [wk, wt, wl, ↓reduceIte, Nat.reduceEqDiff, Nat.reduceAdd, Nat.zero_add, not_false_eq_true, not_true_eq_false]
      refine (put_ok (o := none) (c := bl ar) S3 N3 (fun q e => hcm _ q (by rw [hA]; exact e)) T3).use ?_
      rintro _ h4 ⟨S4, N4, C4⟩
      obtain ⟨_, _, _, _, _, q5, _⟩ := N4.loads
      simp only [wk, wt, wl, ↓reduceIte, Nat.reduceEqDiff, Nat.reduceAdd, Nat.zero_add, not_false_eq_true, not_true_eq_false, t0, pt, q5]
      refine (blank_ok (a := ar)).use ?_
      rintro _ h5 ⟨tv5, rfl, T5, _, K5⟩
      have S5 := S4.keeps K5
      have C04 := (C2.then K3 fun b e => e.elim).then C4 fun b e => .inr (.inl e)
      have N5 := N4.ch (Ch.wf C04) K5 id
      simp only [wk, wt, wl, ↓reduceIte, Nat.reduceEqDiff, Nat.reduceAdd, Nat.zero_add, not_false_eq_true, not_true_eq_false]
      refine (put_ok (o := (some j2)) (c := bl ar) S5 N5 (fun q e => by rw [putM_len]; exact hcm _ q (by rw [hB]; exact e)) T5).use ?_
      rintro _ h6 ⟨S6, N6, C6⟩
      have C06 := (C04.then K5 fun b e => e.elim).then C6 fun b e => .inr (.inl e)
      obtain ⟨h7, e7, N7, C7, z7⟩ := (N6).setLast (Ch.wf C06) none
      have S7 := (S6).ch C7 ((N6).oth hp0)
      have C07 := (C06).then C7 fun b e => .inr (.inr e)
      have G7 := gl.keeps S7.K
      obtain ⟨_, _, _, _, m4, _, _⟩ := N7.loads
      obtain ⟨h8, e8, N8, C8, z8⟩ := N7.setCol (Ch.wf C07) (T.col + widthZ x)
      have S8 := S7.ch C8 (N7.oth hp0)
      have C08 := C07.then C8 fun b e => .inr (.inr e)
      have e7' : storeV prog h6 125 (.pointer (some ⟨pb, 6, none⟩)) (.pointer none) = some (undef, h7) := e7
      simp only [wk, wt, wl, ↓reduceIte, Nat.reduceEqDiff, Nat.reduceAdd, Nat.zero_add, not_false_eq_true, not_true_eq_false, t0, t13, t14, t15, pt, lastV, e7']
      refine adraw_order [(0, false), (1, false), (2, false), (3, false), (4, false), (5, true), (6, false), (7, false), (8, false), (9, false)] mixed (by kernel_rfl) (by kernel_rfl) (by kernel_rfl) (by with_reducible repeat (first | exact PF_retK | refine PF_thenK ?_ | refine PF_blockK ?_)) ?_
      simp only [wk, wt, wl, ↓reduceIte, Nat.reduceEqDiff, Nat.reduceAdd, Nat.zero_add, not_false_eq_true, not_true_eq_false, dK_t, t0, t13, t14, t15, pt, m4]
      refine (width_ok hx32 G7).use_pure ?_
      simp only [wk, wt, wl, ↓reduceIte, Nat.reduceEqDiff, Nat.reduceAdd, Nat.zero_add, not_false_eq_true, not_true_eq_false, dK_t]
      refine ⟨Reads.refl _, ?_⟩
      simp only [wk, wt, wl, ↓reduceIte, Nat.reduceEqDiff, Nat.reduceAdd, Nat.zero_add, not_false_eq_true, not_true_eq_false, dK_t, t0, t13, t14, t15, pt, w2, e8, wi, intOf_int]
      exact ⟨⟨i + 1, rfl, by omega, by rw [hsn, hE]; exact S8, by rw [hsn, hE]; exact N8, C08⟩, by omega⟩
    | none =>
      have hE : runeM R C y lo hi ar T x = ⟨putM (putM T.l none (bl ar)) none (bl ar), T.col + widthZ x, none⟩ := by unfold runeM; rw [if_neg c0, if_neg c1, hA, hB, if_neg (fun e => by cases e.1), c2]
      simp only [wk, wt, wl, ↓reduceIte, Nat.reduceEqDiff, Nat.reduceAdd, Nat.zero_add, not_false_eq_true, not_true_eq_false, t0, t13, t14, t15, pt, d0, d1, lastV, ptr0, ptr1]
      simp only [wk, wt, wl, ↓reduceIte, Nat.reduceEqDiff, Nat.reduceAdd, Nat.zero_add, not_false_eq_true, not_true_eq_false, t0, pt, n5]
      refine (blank_ok (a := ar)).use ?_
      rintro _ h3 ⟨tv3, rfl, T3, _, K3⟩
      have S3 := S2.keeps K3
      have N3 := N2.ch (Ch.wf C2) K3 id
      simp only [wk, wt, wl, ↓reduceIte, Nat.reduceEqDiff, Nat.reduceAdd, Nat.zero_add, not_false_eq_true, not_true_eq_false]
      refine (put_ok (o := none) (c := bl ar) S3 N3 (fun q e => hcm _ q (by rw [hA]; exact e)) T3).use ?_
      rintro _ h4 ⟨S4, N4, C4⟩
      obtain ⟨_, _, _, _, _, q5, _⟩ := N4.loads
      simp only [wk, wt, wl, ↓reduceIte, Nat.reduceEqDiff, Nat.reduceAdd, Nat.zero_add, not_false_eq_true, not_true_eq_false, t0, pt, q5]
      refine (blank_ok (a := ar)).use ?_
      rintro _ h5 ⟨tv5, rfl, T5, _, K5⟩
      have S5 := S4.keeps K5
      have C04 := (C2.then K3 fun b e => e.elim).then C4 fun b e => .inr (.inl e)
      have N5 := N4.ch (Ch.wf C04) K5 id
      simp only [wk, wt, wl, ↓reduceIte, Nat.reduceEqDiff, Nat.reduceAdd, Nat.zero_add, not_false_eq_true, not_true_eq_false]
      refine (put_ok (o := none) (c := bl ar) S5 N5 (fun q e => by rw [putM_len]; exact hcm _ q (by rw [hB]; exact e)) T5).use ?_
      rintro _ h6 ⟨S6, N6, C6⟩
      have C06 := (C04.then K5 fun b e => e.elim).then C6 fun b e => .inr (.inl e)
      obtain ⟨h7, e7, N7, C7, z7⟩ := (N6).setLast (Ch.wf C06) none
      have S7 := (S6).ch C7 ((N6).oth hp0)
      have C07 := (C06).then C7 fun b e => .inr (.inr e)
      have G7 := gl.keeps S7.K
      obtain ⟨_, _, _, _, m4, _, _⟩ := N7.loads
      obtain ⟨h8, e8, N8, C8, z8⟩ := N7.setCol (Ch.wf C07) (T.col + widthZ x)
      have S8 := S7.ch C8 (N7.oth hp0)
      have C08 := C07.then C8 fun b e => .inr (.inr e)
      have e7' : storeV prog h6 125 (.pointer (some ⟨pb, 6, none⟩)) (.pointer none) = some (undef, h7) := e7
      simp only [wk, wt, wl, ↓reduceIte, Nat.reduceEqDiff, Nat.reduceAdd, Nat.zero_add, not_false_eq_true, not_true_eq_false, t0, t13, t14, t15, pt, lastV, e7']
      refine adraw_order [(0, false), (1, false), (2, false), (3, false), (4, false), (5, true), (6, false), (7, false), (8, false), (9, false)] mixed (by kernel_rfl) (by kernel_rfl) (by kernel_rfl) (by with_reducible repeat (first | exact PF_retK | refine PF_thenK ?_ | refine PF_blockK ?_)) ?_
      simp only [wk, wt, wl, ↓reduceIte, Nat.reduceEqDiff, Nat.reduceAdd, Nat.zero_add, not_false_eq_true, not_true_eq_false, dK_t, t0, t13, t14, t15, pt, m4]
      refine (width_ok hx32 G7).use_pure ?_
      simp only [wk, wt, wl, ↓reduceIte, Nat.reduceEqDiff, Nat.reduceAdd, Nat.zero_add, not_false_eq_true, not_true_eq_false, dK_t]
      refine ⟨Reads.refl _, ?_⟩
      simp only [wk, wt, wl, ↓reduceIte, Nat.reduceEqDiff, Nat.reduceAdd, Nat.zero_add, not_false_eq_true, not_true_eq_false, dK_t, t0, t13, t14, t15, pt, w2, e8, wi, intOf_int]
      exact ⟨⟨i + 1, rfl, by omega, by rw [hsn, hE]; exact S8, by rw [hsn, hE]; exact N8, C08⟩, by omega⟩
end Go.Proofs.YtcgajolmjjeibaaDoor.Am
end
section
/- Grids: rows and texts that are shown; contracts of the document's Runes, Small, by walks. -/
set_option linter.unusedSimpArgs false
set_option linter.unusedVariables false
set_option maxHeartbeats 4000000
set_option maxRecDepth 20000
namespace Go.Proofs.YtcgajolmjjeibaaDoor.Am
open Go Go.RowKit Go.Proofs.Tryd
structure Rw where
  ln : Int
  fr : Int
  to : Int
  fo : Bool
def cR (x : Rw) : List Value := [.int .i64 x.ln, .int .i64 x.fr, .int .i64 x.to, .bool x.fo]
theorem cR_len : ∀ x, (cR x).length = 4 := fun _ => rfl
abbrev RR (h : Heap) (v : Value) (l : List Rw) : Prop := RS prog h 4 cR v l
theorem RR.flds {h : Heap} {v : Value} {l : List Rw} (R : RR h v l) {i : Nat} {x : Rw} (hx : l[i]? = some x) :
    aload prog h 3 ⟨(eltA v 4 i).block, (eltA v 4 i).off + 0, none⟩ = some (.int .i64 x.ln) ∧ aload prog h 3 ⟨(eltA v 4 i).block, (eltA v 4 i).off + 1, none⟩ = some (.int .i64 x.fr) ∧ aload prog h 3 ⟨(eltA v 4 i).block, (eltA v 4 i).off + 2, none⟩ = some (.int .i64 x.to) ∧ aload prog h 4 ⟨(eltA v 4 i).block, (eltA v 4 i).off + 3, none⟩ = some (.bool x.fo) ∧
    aload prog h 50 (eltA v 4 i) = some (.agg #[.int .i64 x.ln, .int .i64 x.fr, .int .i64 x.to, .bool x.fo]) :=
  ⟨R.fld cR_len underlying3 rfl hx (by decide), R.fld cR_len underlying3 rfl hx (by decide), R.fld cR_len underlying3 rfl hx (by decide), R.fld cR_len underlying4 rfl hx (by decide), R.agg cR_len underlying50 rfl asz50 hx⟩
theorem stood_row : prog.stoodInHeld 50 = false := by kernel_rfl
theorem guard_row : prog.eqGuardType prog.depth 50 = false := by kernel_rfl
theorem neq_row {x y z : Int} {c : Bool} : abin prog .neq 50 (.agg #[.int .i64 x, .int .i64 y, .int .i64 z, .bool c]) (.agg #[.int .i64 x, .int .i64 y, .int .i64 z, .bool c]) = some (.bool false) := by
  simp [abin, aeq, underlying50, stood_row, guard_row, aeqF, apart, aeq1, wt, isAggD]
theorem eql_row {x y z : Int} {c : Bool} : abin prog .eql 50 (.agg #[.int .i64 x, .int .i64 y, .int .i64 z, .bool c]) (.agg #[.int .i64 x, .int .i64 y, .int .i64 z, .bool c]) = some (.bool true) := by
  simp [abin, aeq, underlying50, stood_row, guard_row, aeqF, apart, aeq1, wt, isAggD]
theorem build_r1 {x : Int} : abuild prog 50 #[(0, .int .i64 x)] = some (.agg #[.int .i64 x, .int .i64 0, .int .i64 0, .bool false]) := by simp [abuild, wt, aplaces, Instr.fill, Value.cells]
theorem build_r2 {x : Int} : abuild prog 50 #[(2, .int .i64 x)] = some (.agg #[.int .i64 0, .int .i64 0, .int .i64 x, .bool false]) := by simp [abuild, wt, aplaces, Instr.fill, Value.cells]
theorem build_r02 {x y : Int} : abuild prog 50 #[(0, .int .i64 x), (2, .int .i64 y)] = some (.agg #[.int .i64 x, .int .i64 0, .int .i64 y, .bool false]) := by simp [abuild, wt, aplaces, Instr.fill, Value.cells]
theorem build_r12 {x y : Int} : abuild prog 50 #[(1, .int .i64 x), (2, .int .i64 y)] = some (.agg #[.int .i64 0, .int .i64 x, .int .i64 y, .bool false]) := by simp [abuild, wt, aplaces, Instr.fill, Value.cells]
theorem build_r023 {x y : Int} {b : Bool} : abuild prog 50 #[(0, .int .i64 x), (2, .int .i64 y), (3, .bool b)] = some (.agg #[.int .i64 x, .int .i64 0, .int .i64 y, .bool b]) := by simp [abuild, wt, aplaces, Instr.fill, Value.cells]
theorem build_r012 {x y z : Int} : abuild prog 50 #[(0, .int .i64 x), (1, .int .i64 y), (2, .int .i64 z)] = some (.agg #[.int .i64 x, .int .i64 y, .int .i64 z, .bool false]) := by simp [abuild, wt, aplaces, Instr.fill, Value.cells]
theorem bsr {h : Heap} {x y z : Int} {b : Bool} : abuildSlice prog h 51 1 #[(0, .agg #[.int .i64 x, .int .i64 y, .int .i64 z, .bool b])] = some (.slice (some ⟨h.size, 0, none⟩) 1 2, h.new 50 (cR ⟨x, y, z, b⟩)) :=
  buildA4 underlying51 asz50 azero50 rfl rfl rfl rfl rfl
/-- A text: lines of runes. -/
def LT (h : Heap) (v : Value) (ls : List (List Int)) : Prop :=
  ∃ vs : List Value, vs.length = ls.length ∧ Rd prog h 1 v vs.length vs ∧ ∀ (i : Nat) x xs, vs[i]? = some x → ls[i]? = some xs → RdI prog h .i32 x xs
theorem LT.keeps {h h' : Heap} {v : Value} {ls : List (List Int)} (T : LT h v ls) (K : Keeps h h') : LT h' v ls := by
  obtain ⟨vs, h1, h2, h3⟩ := T
  exact ⟨vs, h1, h2.keeps K, fun i x xs hx hl => (h3 i x xs hx hl).keeps K⟩
theorem LT.len {h : Heap} {v : Value} {ls : List (List Int)} (T : LT h v ls) : abuiltin prog .len #[35] #[v] = some (.int .i64 ls.length) := by
  obtain ⟨vs, h1, h2, h3⟩ := T
  rw [← h1]; exact h2.len underlying35
theorem LT.index {h : Heap} {v : Value} {ls : List (List Int)} (T : LT h v ls) {i : Nat} (hi : i < ls.length) : aindexAddr prog 35 v (.int .i64 (i : Int)) = some (.pointer (some (eltA v 1 i))) := by
  obtain ⟨vs, h1, h2, h3⟩ := T
  have := Rd.index h2 underlying35 asz23 (q := .i64) (i := (i : Int)) (by omega) (by omega)
  simpa using this
theorem LT.at {h : Heap} {v : Value} {ls : List (List Int)} (T : LT h v ls) {i : Nat} {xs : List Int} (hx : ls[i]? = some xs) : ∃ x, aload prog h 23 (eltA v 1 i) = some x ∧ RdI prog h .i32 x xs := by
  obtain ⟨vs, h1, h2, h3⟩ := T
  have hi : i < vs.length := by have := (List.getElem?_eq_some_iff.1 hx).1; omega
  have hv : vs[i]? = some vs[i] := List.getElem?_eq_getElem hi
  refine ⟨vs[i], ?_, h3 i _ xs hv hx⟩
  have := Rd.at0 h2 (t := 23) underlying23 rfl hi (by decide)
  rw [this, Nat.mul_one, hv]
def sumL (ls : List (List Int)) : Nat := (ls.map List.length).sum
theorem sumL_take {ls : List (List Int)} {i : Nat} {xs : List Int} (hx : ls[i]? = some xs) : sumL (ls.take (i + 1)) = sumL (ls.take i) + xs.length := by
  simp [sumL, List.take_add_one, hx]
theorem sumL_le {ls : List (List Int)} (i : Nat) : sumL (ls.take i) ≤ sumL ls := by
  have : ls = ls.take i ++ ls.drop i := (List.take_append_drop i ls).symm
  have h2 : sumL ls = sumL (ls.take i) + sumL (ls.drop i) := by
    conv => lhs; rw [this]
    simp only [sumL, List.map_append, List.sum_append]
  omega
theorem sumL_get {ls : List (List Int)} {i : Nat} {xs : List Int} (hx : ls[i]? = some xs) : xs.length ≤ sumL ls := by
  have h1 := sumL_take hx
  have h2 := sumL_le (ls := ls) (i + 1)
  omega
def runesZ (ls : List (List Int)) : Int := if 0 < (ls.length : Int) - 1 + sumL ls then (ls.length : Int) - 1 + sumL ls else 0
theorem textRunes_ok {v : Value} {ls : List (List Int)} {h : Heap} (T : LT h v ls) (hb : sumL ls ≤ 2305843009213693952) (hl : ls.length ≤ 2305843009213693952) : ACalls prog 32 #[v] h (fun y h' => y = .int .i64 (runesZ ls) ∧ h' = h) := by
  refine acalls_of_W func32 rfl (by kernel_rfl) (by kernel_rfl) (by simp [ntmps32]) ?_
  simp (disch := omega) only [wk, wt, wl, ↓reduceIte, Nat.reduceEqDiff, Nat.reduceAdd, Nat.zero_add, not_false_eq_true, not_true_eq_false, T.len, IntWalk.i64_in]
  refine W_loop (fun tm h' => h' = h ∧ tm 0 = v ∧ ∃ i : Nat, tm 4 = .int .i64 i ∧ tm 3 = .int .i64 ((ls.length : Int) - 1 + sumL (ls.take i)) ∧ i ≤ ls.length) (fun tm _ => (ls.length - intOf (tm 4)).toNat) ⟨rfl, (by first | rfl | (simp only [wk, wt, wl, ↓reduceIte, Nat.reduceEqDiff, Nat.reduceAdd, Nat.zero_add, not_false_eq_true, not_true_eq_false]; done) | (simp only [wk, wt, wl, ↓reduceIte, Nat.reduceEqDiff, Nat.reduceAdd, Nat.zero_add, not_false_eq_true, not_true_eq_false]; rfl)), 0, (by first | rfl | (simp only [wk, wt, wl, ↓reduceIte, Nat.reduceEqDiff, Nat.reduceAdd, Nat.zero_add, not_false_eq_true, not_true_eq_false]; done) | (simp only [wk, wt, wl, ↓reduceIte, Nat.reduceEqDiff, Nat.reduceAdd, Nat.zero_add, not_false_eq_true, not_true_eq_false]; rfl)), by (simp only [wk, wt, wl, ↓reduceIte, Nat.reduceEqDiff, Nat.reduceAdd, Nat.zero_add, not_false_eq_true, not_true_eq_false]); simp [sumL], by omega⟩ ?_
  rintro tm h' ⟨rfl, t0, i, t4, t3, hi⟩
  simp only [wk, wt, wl, ↓reduceIte, Nat.reduceEqDiff, Nat.reduceAdd, Nat.zero_add, not_false_eq_true, not_true_eq_false, t0, t3, t4, T.len]
  refine condK_dec (fun hd => ?_) (fun hd => ?_)
  · have hi1 : i < ls.length := by omega
    obtain ⟨xs, hx⟩ : ∃ f, ls[i]? = some f := ⟨ls[i], by simp [hi1]⟩
    obtain ⟨x, A1, A2⟩ := T.at hx
    have h1 := sumL_take hx
    have h2 := sumL_le (ls := ls) (i + 1)
    simp (disch := omega) only [wk, wt, wl, ↓reduceIte, Nat.reduceEqDiff, Nat.reduceAdd, Nat.zero_add, not_false_eq_true, not_true_eq_false, t0, t3, t4, T.index hi1, A1, A2.len underlying23, IntWalk.i64_in, intOf_int]
    exact ⟨⟨i + 1, by simp, by rw [h1]; simp only [Value.int.injEq, true_and]; omega, by omega⟩, by omega⟩
  · have hil : ls.take i = ls := List.take_of_length_le (by omega)
    simp only [wk, wt, wl, ↓reduceIte, Nat.reduceEqDiff, Nat.reduceAdd, Nat.zero_add, not_false_eq_true, not_true_eq_false, t3, hil, abuiltin_max]
    refine ⟨?_, trivial⟩
    simp only [runesZ, Value.int.injEq, true_and]
    split <;> split <;> omega
def smallB (ls : List (List Int)) : Bool := decide ((ls.length : Int) ≤ 300) && decide (runesZ ls ≤ 3000)
theorem smallText_ok {v : Value} {ls : List (List Int)} {h : Heap} (T : LT h v ls) (hb : ls.length ≤ 300 → sumL ls ≤ 2305843009213693952) (hl : ls.length ≤ 2305843009213693952) : ACalls prog 11 #[v] h (fun y h' => y = .bool (smallB ls) ∧ h' = h) := by
  refine acalls_of_W func11 rfl (by kernel_rfl) (by kernel_rfl) (by simp [ntmps11]) ?_
  by_cases h1 : (ls.length : Int) ≤ 300
  · have d1 : decide ((ls.length : Int) ≤ 300) = true := decide_eq_true h1
    simp only [wk, wt, wl, ↓reduceIte, Nat.reduceEqDiff, Nat.reduceAdd, Nat.zero_add, not_false_eq_true, not_true_eq_false, T.len, d1]
    refine (textRunes_ok T (hb (by omega)) hl).use_pure ?_
    simp only [wk, wt, wl, ↓reduceIte, Nat.reduceEqDiff, Nat.reduceAdd, Nat.zero_add, not_false_eq_true, not_true_eq_false]
    simp [smallB, d1]
  · have d1 : decide ((ls.length : Int) ≤ 300) = false := decide_eq_false h1
    simp only [wk, wt, wl, ↓reduceIte, Nat.reduceEqDiff, Nat.reduceAdd, Nat.zero_add, not_false_eq_true, not_true_eq_false, T.len, d1]
    simp [smallB, d1]
end Go.Proofs.YtcgajolmjjeibaaDoor.Am
end
section
/- Grids, the program: units by a pen, a pane's rows, in plain terms; their contracts, by walks. -/
set_option linter.unusedSimpArgs false
set_option linter.unusedVariables false
set_option maxHeartbeats 4000000
set_option maxRecDepth 20000
namespace Go.Proofs.YtcgajolmjjeibaaDoor.Am
open Go Go.RowKit Go.Proofs.Tryd
theorem Var.loadP {P : Program} {h : Heap} {b i s : Nat} {cs : List Value} (V : Var h b cs) {t : TypeId} {d : TypeDesc} (ht : P.underlying t = some d) (hd : isAggD d = true) (hs : asz P t = some s) (hle : i + s ≤ cs.length) : aload P h t ⟨b, i, none⟩ = some (.agg ((cs.drop i).take s).toArray) := by
  obtain ⟨k, h1, rfl, h3, _⟩ := V
  simp [aload, h1, h3, ht, hd, hs, hle]
/-- Units typed, one behind the other. -/
def unitsM (R C y lo hi ar : Int) (l : List Cel) (col : Int) (us : List U) : List Cel × Int :=
  us.foldl (fun s u => ((textM R C y lo hi ar s.1 s.2 u.tx).l, (textM R C y lo hi ar s.1 s.2 u.tx).col)) (l, col)
/-- A line's units, each at its column. -/
def lineM (R C y lo hi left fr to pl : Int) (l : List Cel) (us : List U) : List Cel :=
  us.foldl (fun l u => if u.col < fr ∨ to ≤ u.col then l else (textM R C y lo hi 0 l (left + u.col - fr - pl) u.tx).l) l
theorem textM_len {R C y lo hi ar col : Int} {l : List Cel} {xs : List Int} {n : Nat} (hl : 0 ≤ lo) (hh : hi ≤ C) (hm : R * C = n) (hn : l.length = n) : (textM R C y lo hi ar l col xs).l.length = n := (text_inv hl hh hm xs (S := ⟨l, col, none⟩) ⟨hn, fun j e => by cases e⟩).1.len
/-- Texts are not too long. -/
def TxLe (m : Nat) (l : List Cel) : Prop := ∀ c, c ∈ l → c.tx.length ≤ m
theorem textM_le {R C y lo hi ar col : Int} {l : List Cel} {xs : List Int} {m k : Nat} (h1 : 1 ≤ m) (hT : TxLe m l) (hx : xs.length ≤ k) : TxLe (m + k) (textM R C y lo hi ar l col xs).l := fun c hc => by
  have := textM_tx xs h1 (S := ⟨l, col, none⟩) hT c hc
  omega
theorem textM_col {R C y lo hi ar col : Int} {l : List Cel} {xs : List Int} (hl : 0 ≤ lo) (hh : hi ≤ C) (hm : R * C = l.length) : col ≤ (textM R C y lo hi ar l col xs).col ∧ (textM R C y lo hi ar l col xs).col ≤ col + 2 * xs.length := (text_inv hl hh hm xs (S := ⟨l, col, none⟩) ⟨rfl, fun j e => by cases e⟩).2
section
variable {h0 h h' : Heap} {cb kb pb : Nat} {R C y lo hi col ar : Int} {l : List Cel}
/-- Rows that are read stay, where cells change. -/
theorem keepK {s n : Nat} {v : Value} {xs : List Value} (S : DS h0 h cb kb R C l) (H : Ch (fun b => b = kb) h h') (X : Rd prog h s v n xs) (h3 : s ≠ 3) : Rd prog h' s v n xs := Ch.rd H X fun b hb d => by
  obtain ⟨cs, W⟩ := S.G.var
  rw [show b = kb from d] at hb
  exact Rd.elsewhere X W asz63 (fun e => h3 e.symm) hb
theorem keepUR {v : Value} {uv : List (U × Value)} (S : DS h0 h cb kb R C l) (H : Ch (fun b => b = kb) h h') (X : UR h v uv) : UR h' v uv := ⟨keepK S H X.rd (by decide), fun x hx => keepK S H (X.txt x hx) (by decide)⟩
theorem keepUR2 {v : Value} {uv : List (U × Value)} {last : Option Nat} (N : PN h pb cb kb y lo hi col ar last) (S : DS h0 h cb kb R C l) (H : Ch (DP kb pb) h h') (X : UR h v uv) : UR h' v uv := ⟨keepDP N S H X.rd (by decide) (by decide), fun x hx => keepDP N S H (X.txt x hx) (by decide) (by decide)⟩
theorem keepLT {v : Value} {ls : List (List Int)} (S : DS h0 h cb kb R C l) (H : Ch (fun b => b = kb) h h') (X : LT h v ls) : LT h' v ls := by
  obtain ⟨vs, h1, h2, h3⟩ := X
  exact ⟨vs, h1, keepK S H h2 (by decide), fun i x xs hx hl => keepK S H (h3 i x xs hx hl) (by decide)⟩
end
theorem unit_tx {line : List Int} {tab : Int} {u : U} (hu : u ∈ unitsL line tab) : u.tx.length ≤ 64 + line.length := ((unitsL_ok (line := line) (tab := tab)).each u hu).2.2.2.2.2.2.2
theorem utext_isR {r col tab : Int} (h : isR r) : ∀ x, x ∈ utext r col tab → isR x := by
  unfold isR at *
  unfold utext
  split
  · intro x hx; rw [(List.mem_replicate.1 hx).2]; omega
  · split
    · intro x hx
      simp only [List.mem_cons, List.not_mem_nil, or_false] at hx
      rcases hx with rfl | rfl <;> omega
    · unfold showL
      split
      · rename_i hc
        simp only [ctlB, decide_eq_true_eq] at hc
        split
        · intro x hx; simp only [List.mem_cons, List.not_mem_nil, or_false] at hx; rcases hx with rfl | rfl <;> omega
        · intro x hx; simp only [List.mem_cons, List.not_mem_nil, or_false] at hx
          rcases hx with rfl | rfl <;> omega
      · split
        · intro x hx; rw [List.mem_singleton.1 hx]; omega
        · intro x hx; rw [List.mem_singleton.1 hx]; exact h
/-- What units show are runes. -/
def UIsR (us : List U) : Prop := ∀ u, u ∈ us → ∀ x, x ∈ u.tx → isR x
theorem UIsR.to {line : List Int} {tab : Int} (hline : ∀ j, isR (line.getD j 0)) : ∀ n, UIsR (unitsTo line tab n).1
  | 0 => fun u hu => by simp [unitsTo] at hu
  | n + 1 => by
    have ih := UIsR.to (tab := tab) hline n
    have hr := hline n
    simp only [unitsTo]
    revert ih hr
    generalize unitsTo line tab n = st
    obtain ⟨us, col⟩ := st
    generalize line.getD n 0 = r
    intro ih hr
    refine ustep_cases (Q := fun st => UIsR st.1) ?_ ?_
    · intro u hu
      rcases List.mem_append.1 hu with h | h
      · exact ih u h
      · simp only [List.mem_singleton] at h; subst h
        exact utext_isR hr
    · intro pre u e hz hj v hv
      subst e
      rcases List.mem_append.1 hv with h | h
      · exact ih v (by simp [h])
      · simp only [List.mem_singleton] at h; subst h
        intro x hx
        rcases List.mem_append.1 hx with h | h
        · exact ih u (by simp) x h
        · simp only [List.mem_singleton] at h; subst h; exact hr
theorem unitsL_isR {line : List Int} {tab : Int} (hline : ∀ j, isR (line.getD j 0)) : UIsR (unitsL line tab) := UIsR.to hline _
theorem unitsM_snoc {R C y lo hi ar col : Int} {l : List Cel} {us : List U} {i : Nat} {u : U} (h : us[i]? = some u) : unitsM R C y lo hi ar l col (us.take (i + 1)) = ((textM R C y lo hi ar (unitsM R C y lo hi ar l col (us.take i)).1 (unitsM R C y lo hi ar l col (us.take i)).2 u.tx).l, (textM R C y lo hi ar (unitsM R C y lo hi ar l col (us.take i)).1 (unitsM R C y lo hi ar l col (us.take i)).2 u.tx).col) := by
  rw [take_snoc h]; simp [unitsM]
theorem lineM_snoc {R C y lo hi left fr to pl : Int} {l : List Cel} {us : List U} {i : Nat} {u : U} (h : us[i]? = some u) : lineM R C y lo hi left fr to pl l (us.take (i + 1)) = if u.col < fr ∨ to ≤ u.col then lineM R C y lo hi left fr to pl l (us.take i) else (textM R C y lo hi 0 (lineM R C y lo hi left fr to pl l (us.take i)) (left + u.col - fr - pl) u.tx).l := by
  rw [take_snoc h]; simp [lineM]
theorem unitC_load {h : Heap} {b : Nat} {u : U} {tv : Value} (V : Var h b (cellsU (u, tv))) : aload prog h 3 ⟨b, 0, none⟩ = some (.int .i64 u.fr) ∧ aload prog h 3 ⟨b, 2, none⟩ = some (.int .i64 u.col) ∧ aload prog h 23 ⟨b, 4, none⟩ = some tv :=
  ⟨V.load1 (P := prog) (t := 3) underlying3 rfl (i := 0), V.load1 (P := prog) (t := 3) underlying3 rfl (i := 2), V.load1 (P := prog) (t := 23) underlying23 rfl (i := 4)⟩
/-- A unit put into a variable of its own. -/
theorem unit_var {h : Heap} (H : Wf h) {u : U} {tv : Value} (o : one tv = true) : ∃ h', storeV prog (h.new 61 [.int .i64 0, .int .i64 0, .int .i64 0, .int .i64 0, .slice none 0 0]) 61 (.pointer (some ⟨h.size, 0, none⟩)) (.agg #[.int .i64 u.fr, .int .i64 u.to, .int .i64 u.col, .int .i64 u.wd, tv]) = some (undef, h') ∧ Var h' h.size (cellsU (u, tv)) ∧ Keeps h h' ∧ h'.size = h.size + 1 := by
  have N := Keeps.new H 61 [.int .i64 0, .int .i64 0, .int .i64 0, .int .i64 0, .slice none 0 0]
  obtain ⟨h', e, V, C, z⟩ := (Var.new (e := 61) H (cs := [.int .i64 0, .int .i64 0, .int .i64 0, .int .i64 0, .slice none 0 0])).store (P := prog) (t := 61) (v := .agg #[.int .i64 u.fr, .int .i64 u.to, .int .i64 u.col, .int .i64 u.wd, tv]) (i := 0) (Ch.wf N) asz61 (by simp [Value.cells]) (by simp [Value.cells, o, one_int])
  refine ⟨h', e, ?_, N.step C fun b e => by omega, z⟩
  have : over [.int .i64 0, .int .i64 0, .int .i64 0, .int .i64 0, .slice none 0 0] 0 (Value.agg #[.int .i64 u.fr, .int .i64 u.to, .int .i64 u.col, .int .i64 u.wd, tv]).cells.toList = cellsU (u, tv) := by
    rw [over_all (by simp [Value.cells])]; simp [Value.cells, cellsU]
  rw [this] at V; exact V
/-- Units by a pen. -/
theorem pUnits_ok {h0 h : Heap} {cb kb pb : Nat} {R C y lo hi col ar tab : Int} {l : List Cel} {last : Option Nat} {lv : Value} {xs : List Int} {m : Nat} (gl : Gl h0) (S : DS h0 h cb kb R C l) (N : PN h pb cb kb y lo hi col ar last) (hp0 : h0.size ≤ pb) (hl : 0 ≤ lo) (hhC : hi ≤ C) (X : RdI prog h .i32 lv xs) (hx : ∀ j, isR (xs.getD j 0)) (hxl : xs.length ≤ 10000) (hc : -1000000000000 ≤ col ∧ col ≤ 1000000000000) (hm1 : 1 ≤ m) (hm : m ≤ 1000000000000) (hT : TxLe m l) :
    ACalls prog 48 #[pt pb, lv, .int .i64 tab] h (fun v h' => DS h0 h' cb kb R C (unitsM R C y lo hi ar l col (unitsL xs tab)).1 ∧ Ch (DP kb pb) h h' ∧ TxLe (m + 100640000) (unitsM R C y lo hi ar l col (unitsL xs tab)).1) := by
  refine acalls_of_W' func48 rfl (by kernel_rfl) (by kernel_rfl) (by simp [ntmps48]) ?_
  intro H
  have hmm := S.i.2.2.2.2
  simp only [wk, wt, wl, ↓reduceIte, Nat.reduceEqDiff, Nat.reduceAdd, Nat.zero_add, not_false_eq_true, not_true_eq_false, pt]
  refine (units_ok X (gl.keeps S.K) hx hxl).use ?_
  rintro uv h1 ⟨uw, hus, UR1, K1⟩
  have S1 := S.keeps K1
  have N1 := N.ch H K1 id
  have hul : uw.length ≤ 10000 := by
    have := (unitsL_ok (line := xs) (tab := tab)).len
    rw [← hus, List.length_map] at this; omega
  have LU : abuiltin prog .len #[44] #[uv] = some (.int .i64 uw.length) := UR1.rd.len underlying44
  simp only [wk, wt, wl, ↓reduceIte, Nat.reduceEqDiff, Nat.reduceAdd, Nat.zero_add, not_false_eq_true, not_true_eq_false, pt, LU]
  refine W_loop (fun tm hh => tm 0 = pt pb ∧ tm 10 = uv ∧ tm 11 = .int .i64 (uw.length : Int) ∧ ∃ (i : Nat) (la : Option Nat), tm 12 = .int .i64 (i : Int) ∧ i ≤ uw.length ∧ DS h0 hh cb kb R C (unitsM R C y lo hi ar l col ((unitsL xs tab).take i)).1 ∧ PN hh pb cb kb y lo hi (unitsM R C y lo hi ar l col ((unitsL xs tab).take i)).2 ar la ∧ Ch (DP kb pb) h hh ∧ UR hh uv uw ∧
      col ≤ (unitsM R C y lo hi ar l col ((unitsL xs tab).take i)).2 ∧ (unitsM R C y lo hi ar l col ((unitsL xs tab).take i)).2 ≤ col + 20128 * i ∧ TxLe (m + 10064 * i) (unitsM R C y lo hi ar l col ((unitsL xs tab).take i)).1)
    (fun tm _ => (uw.length - intOf (tm 12)).toNat) ⟨(by first | rfl | (simp only [wk, wt, wl, ↓reduceIte, Nat.reduceEqDiff, Nat.reduceAdd, Nat.zero_add, not_false_eq_true, not_true_eq_false]; done) | (simp only [wk, wt, wl, ↓reduceIte, Nat.reduceEqDiff, Nat.reduceAdd, Nat.zero_add, not_false_eq_true, not_true_eq_false]; rfl) | (simp only [wk, wt, wl, ↓reduceIte, Nat.reduceEqDiff, Nat.reduceAdd, Nat.zero_add, not_false_eq_true, not_true_eq_false, pt]; done) | (simp only [wk, wt, wl, ↓reduceIte, Nat.reduceEqDiff, Nat.reduceAdd, Nat.zero_add, not_false_eq_true, not_true_eq_false, pt]; rfl)), (by first | rfl | (simp only [wk, wt, wl, ↓reduceIte, Nat.reduceEqDiff, Nat.reduceAdd, Nat.zero_add, not_false_eq_true, not_true_eq_false]; done) | (simp only [wk, wt, wl, ↓reduceIte, Nat.reduceEqDiff, Nat.reduceAdd, Nat.zero_add, not_false_eq_true, not_true_eq_false]; rfl)), (by first | rfl | (simp only [wk, wt, wl, ↓reduceIte, Nat.reduceEqDiff, Nat.reduceAdd, Nat.zero_add, not_false_eq_true, not_true_eq_false]; done) | (simp only [wk, wt, wl, ↓reduceIte, Nat.reduceEqDiff, Nat.reduceAdd, Nat.zero_add, not_false_eq_true, not_true_eq_false]; rfl)), 0, last, (by first | rfl | (simp only [wk, wt, wl, ↓reduceIte, Nat.reduceEqDiff, Nat.reduceAdd, Nat.zero_add, not_false_eq_true, not_true_eq_false]; done) | (simp only [wk, wt, wl, ↓reduceIte, Nat.reduceEqDiff, Nat.reduceAdd, Nat.zero_add, not_false_eq_true, not_true_eq_false]; rfl)), by omega, by simpa [unitsM] using S1, by simpa [unitsM] using N1, K1.mono fun b e => e.elim, UR1, by simp [unitsM], by simp [unitsM], by simpa [unitsM] using hT⟩ ?_
  clear S1 N1
  rintro tm hh ⟨t0, t10, t11, i, la, t12, hi2, S2, N2, C2, UR2, b1, b2, T2⟩
  simp only [wk, wt, wl, ↓reduceIte, Nat.reduceEqDiff, Nat.reduceAdd, Nat.zero_add, not_false_eq_true, not_true_eq_false, t0, t10, t11, t12]
  refine condK_dec (fun hd => ?_) (fun hd => ?_)
  case refine_2 =>
    have : i = uw.length := by omega
    have hall : (unitsL xs tab).take i = unitsL xs tab := List.take_of_length_le (by rw [← hus, List.length_map]; omega)
    rw [hall] at S2 T2
    simp only [wk, wt, wl, ↓reduceIte, Nat.reduceEqDiff, Nat.reduceAdd, Nat.zero_add, not_false_eq_true, not_true_eq_false]
    exact ⟨S2, C2, fun c hc => by have := T2 c hc; omega⟩
  have hiu : i < uw.length := by omega
  have hu : (unitsL xs tab)[i]? = some (uw[i]).1 := units_get hus hiu
  have hmem := List.mem_of_getElem? hu
  have htx := unit_tx hmem
  have hsn := unitsM_snoc (R := R) (C := C) (y := y) (lo := lo) (hi := hi) (ar := ar) (col := col) (l := l) hu
  generalize unitsM R C y lo hi ar l col ((unitsL xs tab).take i) = st at *
  obtain ⟨l2, col2⟩ := st
  simp only at S2 N2 b1 b2 T2 hsn
  have IU := Rd.index UR2.rd underlying44 asz61 (q := .i64) (i := (i : Int)) (by omega) (by omega)
  rw [Int.toNat_natCast] at IU
  have LX := UR2.at hiu
  have TX := UR2.txt _ (List.getElem_mem hiu)
  obtain ⟨h3, e3, V3, K3, z3⟩ := unit_var (Ch.wf C2) (u := (uw[i]).1) (tv := (uw[i]).2) (Rd.one TX)
  obtain ⟨_, _, u4⟩ := unitC_load V3
  have S3 := S2.keeps K3
  have N3 := N2.ch (Ch.wf C2) K3 id
  have wi : IntKind.i64.wrap ((i : Int) + 1) = ((i + 1 : Nat) : Int) := by rw [IntWalk.i64_in _ (by omega)]; omega
  have C3 := C2.then K3 fun b e => e.elim
  simp only [wk, wt, wl, ↓reduceIte, Nat.reduceEqDiff, Nat.reduceAdd, Nat.zero_add, not_false_eq_true, not_true_eq_false, t0, t10, t11, t12, pt, newSz, IU, LX, e3, u4]
  refine (text_ok gl S3 N3 hp0 hl hhC (TX.keeps K3) (unitsL_isR hx _ hmem) (by omega) (by omega) (fun c hc => by have := T2 c hc; omega)).use ?_
  rintro _ h4 ⟨rfl, S4, N4, C4⟩
  have hcol := textM_col (R := R) (C := C) (y := y) (lo := lo) (hi := hi) (ar := ar) (col := col2) (l := l2) (xs := (uw[i]).1.tx) hl hhC S2.i.2.2.2.2
  have C04 := C3.then C4 fun b e => .inr e
  simp only [wk, wt, wl, ↓reduceIte, Nat.reduceEqDiff, Nat.reduceAdd, Nat.zero_add, not_false_eq_true, not_true_eq_false, t0, t10, t11, t12, pt, wi, intOf_int]
  have fin : TxLe (m + 10064 * (i + 1)) (textM R C y lo hi ar l2 col2 (uw[i]).1.tx).l := fun c hc => by
    have := textM_le (by omega) T2 htx c hc
    omega
  refine ⟨⟨i + 1, _, rfl, by omega, by rw [hsn]; exact S4, by rw [hsn]; exact N4, C04, keepUR2 N3 S3 C4 (UR2.keeps K3), by rw [hsn]; simp only; omega, by rw [hsn]; simp only; omega, by rw [hsn]; exact fin⟩, by omega⟩
end Go.Proofs.YtcgajolmjjeibaaDoor.Am
end
section
/- Grids, the program: a pane's rows, in plain terms; the contract of pane, by a walk. -/
set_option linter.unusedSimpArgs false
set_option linter.unusedVariables false
set_option maxHeartbeats 4000000
set_option maxRecDepth 20000
namespace Go.Proofs.YtcgajolmjjeibaaDoor.Am
open Go Go.RowKit Go.Proofs.Tryd
/-- A window and what it shows. -/
structure PaM where
  id : Int
  top : Int
  left : Int
  rows : Int
  cols : Int
  lines : List (List Int)
  rs : List Rw
  tab : Int
  pl : Int
  status : List Int
def rowM (R C : Int) (P : PaM) (l : List Cel) (i : Int) (r : Rw) : List Cel :=
  if r.ln < 0 ∨ (P.lines.length : Int) ≤ r.ln then (textM R C (P.top + i) (imax P.left 0) (imin (P.left + P.cols) C) 0 l P.left [126]).l
  else lineM R C (P.top + i) (imax P.left 0) (imin (P.left + P.cols) C) P.left r.fr r.to P.pl l (unitsL (P.lines.getD r.ln.toNat []) P.tab)
def rowsM (R C : Int) (P : PaM) : Int → List Rw → List Cel → List Cel
  | _, [], l => l
  | i, r :: rs, l => rowsM R C P (i + 1) rs (rowM R C P l i r)
def shownN (P : PaM) : Nat := (imax 0 (imin P.rs.length P.rows)).toNat
def paneM (R C : Int) (P : PaM) (l : List Cel) : List Cel := rowsM R C P 0 (P.rs.take (shownN P)) l
def paC (P : PaM) (lv rv sv : Value) (a b c d e : Int) : List Value := [.int .i64 P.id, .int .i64 P.top, .int .i64 P.left, .int .i64 P.rows, .int .i64 P.cols, lv, rv, .int .i64 P.tab, .int .i64 P.pl, sv, .bool false, .int .i64 a, .int .i64 b, .int .i64 c, .int .i64 d, .int .i64 e]
def PaV (h : Heap) (P : PaM) (cs : List Value) : Prop := ∃ lv rv sv a b c d e, cs = paC P lv rv sv a b c d e ∧ LT h lv P.lines ∧ RR h rv P.rs ∧ RdI prog h .i32 sv P.status
theorem PaV.keeps {h h' : Heap} {P : PaM} {cs : List Value} (V : PaV h P cs) (K : Keeps h h') : PaV h' P cs := by
  obtain ⟨lv, rv, sv, a, b, c, d, e, h1, h2, h3, h4⟩ := V
  exact ⟨lv, rv, sv, a, b, c, d, e, h1, h2.keeps K, Rd.keeps h3 K, h4.keeps K⟩
def Sm (x : Int) : Prop := -4194304 ≤ x ∧ x ≤ 4194304
structure PaOk (P : PaM) : Prop where
  top : Sm P.top
  left : Sm P.left
  rows : Sm P.rows
  cols : Sm P.cols
  pl : Sm P.pl
  text : ∀ (i : Nat) xs, P.lines[i]? = some xs → (∀ j, isR (xs.getD j 0)) ∧ xs.length ≤ 10000
  ll : P.lines.length ≤ 1000000000
  rl : P.rs.length ≤ 1000
  row : ∀ r, r ∈ P.rs → r.fo = false ∧ Sm r.fr ∧ Sm r.to
theorem keepPaV {h0 h h' : Heap} {cb kb : Nat} {R C : Int} {l : List Cel} {P : PaM} {cs : List Value} (S : DS h0 h cb kb R C l) (H : Ch (fun b => b = kb) h h') (V : PaV h P cs) : PaV h' P cs := by
  obtain ⟨lv, rv, sv, a, b, c, d, e, h1, h2, h3, h4⟩ := V
  exact ⟨lv, rv, sv, a, b, c, d, e, h1, keepLT S H h2, keepK S H h3 (by decide), keepK S H h4 (by decide)⟩
theorem row_var {h : Heap} (H : Wf h) {r : Rw} : ∃ h', storeV prog (h.new 50 [.int .i64 0, .int .i64 0, .int .i64 0, .bool false]) 50 (.pointer (some ⟨h.size, 0, none⟩)) (.agg #[.int .i64 r.ln, .int .i64 r.fr, .int .i64 r.to, .bool r.fo]) = some (undef, h') ∧ Var h' h.size (cR r) ∧ Keeps h h' ∧ h'.size = h.size + 1 := by
  have N := Keeps.new H 50 [.int .i64 0, .int .i64 0, .int .i64 0, .bool false]
  obtain ⟨h', e, V, C, z⟩ := (Var.new (e := 50) H (cs := [.int .i64 0, .int .i64 0, .int .i64 0, .bool false])).store (P := prog) (t := 50) (v := .agg #[.int .i64 r.ln, .int .i64 r.fr, .int .i64 r.to, .bool r.fo]) (i := 0) (Ch.wf N) asz50 (by simp [Value.cells]) (by simp [Value.cells, one_int, one_bool])
  refine ⟨h', e, ?_, N.step C fun b e => by omega, z⟩
  have : over [.int .i64 0, .int .i64 0, .int .i64 0, .bool false] 0 (Value.agg #[.int .i64 r.ln, .int .i64 r.fr, .int .i64 r.to, .bool r.fo]).cells.toList = cR r := by
    rw [over_all (by simp [Value.cells])]; simp [Value.cells, cR]
  rw [this] at V; exact V
theorem cR_load {h : Heap} {b : Nat} {r : Rw} (V : Var h b (cR r)) : aload prog h 3 ⟨b, 0, none⟩ = some (.int .i64 r.ln) ∧ aload prog h 3 ⟨b, 1, none⟩ = some (.int .i64 r.fr) ∧ aload prog h 3 ⟨b, 2, none⟩ = some (.int .i64 r.to) ∧ aload prog h 4 ⟨b, 3, none⟩ = some (.bool r.fo) :=
  ⟨V.load1 (P := prog) (t := 3) underlying3 rfl (i := 0), V.load1 (P := prog) (t := 3) underlying3 rfl (i := 1), V.load1 (P := prog) (t := 3) underlying3 rfl (i := 2), V.load1 (P := prog) (t := 4) underlying4 rfl (i := 3)⟩
def wiC (P : PaM) : List Value := [.int .i64 P.id, .int .i64 P.top, .int .i64 P.left, .int .i64 P.rows, .int .i64 P.cols]
theorem wi_load {h : Heap} {b : Nat} {P : PaM} (V : Var h b (wiC P)) : aload prog h 3 ⟨b, 1, none⟩ = some (.int .i64 P.top) ∧ aload prog h 3 ⟨b, 2, none⟩ = some (.int .i64 P.left) ∧ aload prog h 3 ⟨b, 3, none⟩ = some (.int .i64 P.rows) ∧ aload prog h 3 ⟨b, 4, none⟩ = some (.int .i64 P.cols) :=
  ⟨V.load1 (P := prog) (t := 3) underlying3 rfl (i := 1), V.load1 (P := prog) (t := 3) underlying3 rfl (i := 2), V.load1 (P := prog) (t := 3) underlying3 rfl (i := 3), V.load1 (P := prog) (t := 3) underlying3 rfl (i := 4)⟩
theorem pa_load {h : Heap} {pb : Nat} {P : PaM} {lv rv sv : Value} {a b c d e : Int} (V : Var h pb (paC P lv rv sv a b c d e)) : aload prog h 47 ⟨pb, 0, none⟩ = some (.agg (wiC P).toArray) ∧ aload prog h 35 ⟨pb, 5, none⟩ = some lv ∧ aload prog h 51 ⟨pb, 6, none⟩ = some rv ∧ aload prog h 3 ⟨pb, 7, none⟩ = some (.int .i64 P.tab) ∧ aload prog h 3 ⟨pb, 8, none⟩ = some (.int .i64 P.pl) ∧ aload prog h 23 ⟨pb, 9, none⟩ = some sv ∧ aload prog h 4 ⟨pb, 10, none⟩ = some (.bool false) :=
  ⟨V.loadP (P := prog) (t := 47) underlying47 rfl asz47 (by simp [paC]), V.load1 (P := prog) (t := 35) underlying35 rfl (i := 5), V.load1 (P := prog) (t := 51) underlying51 rfl (i := 6), V.load1 (P := prog) (t := 3) underlying3 rfl (i := 7),
    V.load1 (P := prog) (t := 3) underlying3 rfl (i := 8), V.load1 (P := prog) (t := 23) underlying23 rfl (i := 9), V.load1 (P := prog) (t := 4) underlying4 rfl (i := 10)⟩
theorem pane_ok {h0 h : Heap} {cb kb : Nat} {R C : Int} {l : List Cel} {P : PaM} {cs : List Value} {m : Nat} (gl : Gl h0) (S : DS h0 h cb kb R C l) (V : PaV h P cs) (O : PaOk P) (hm1 : 1 ≤ m) (hm : m ≤ 1000000000000) (hT : TxLe m l) :
    ACalls prog 45 #[pt cb, .agg cs.toArray] h (fun v h' => DS h0 h' cb kb R C (paneM R C P l) ∧ Ch (fun b => b = kb) h h' ∧ TxLe (m + 100640000 * P.rs.length) (paneM R C P l)) := by
  refine acalls_of_W' func45 rfl (by kernel_rfl) (by kernel_rfl) (by simp [ntmps45]) ?_
  intro H
  obtain ⟨lv, rv, sv, a, b, c, d, e, rfl, LTV, RV, SV⟩ := V
  obtain ⟨⟨o1, o2⟩, ⟨o3, o4⟩, ⟨o5, o6⟩, ⟨o7, o8⟩, ⟨o9, o10⟩, otext, oll, orl, orow⟩ := O
  have hmm := S.i.2.2.2.2
  have M1 := imax_spec P.left 0
  have M2 := imin_spec (P.left + P.cols) C
  have M3 := imin_spec P.rs.length P.rows
  have M4 := imax_spec 0 (imin P.rs.length P.rows)
  have oneL : one lv = true := by obtain ⟨vs, _, q, _⟩ := LTV; exact Rd.one q
  have oneR : one rv = true := Rd.one RV
  have oneS : one sv = true := Rd.one SV
  have bx : boxV prog h 57 (.agg (paC P lv rv sv a b c d e).toArray) = some (.pointer (some ⟨h.size, 0, none⟩), h.new 57 (paC P lv rv sv a b c d e)) := by
    simp [boxV, asz57, Value.cells, paC, oneL, oneR, oneS, one_int, one_bool]
  have N1 := Keeps.new H 57 (paC P lv rv sv a b c d e)
  have V1 := Var.new (e := 57) H (cs := paC P lv rv sv a b c d e)
  obtain ⟨pa0, pa5, pa6, pa7, pa8, pa9, pa10⟩ := pa_load V1
  have N2 := Keeps.new (Ch.wf N1) 47 [.int .i64 0, .int .i64 0, .int .i64 0, .int .i64 0, .int .i64 0]
  have hz1 : (h.new 57 (paC P lv rv sv a b c d e)).size = h.size + 1 := rfl
  obtain ⟨h3, e3, V3, C3, z3⟩ := (Var.new (e := 47) (Ch.wf N1) (cs := [.int .i64 0, .int .i64 0, .int .i64 0, .int .i64 0, .int .i64 0])).store (P := prog) (t := 47) (v := .agg (wiC P).toArray) (i := 0) (Ch.wf N2) asz47 (by simp [Value.cells, wiC]) (by simp [Value.cells, wiC, one_int])
  have hov : over [.int .i64 0, .int .i64 0, .int .i64 0, .int .i64 0, .int .i64 0] 0 (Value.agg (wiC P).toArray).cells.toList = wiC P := by rw [over_all (by simp [Value.cells, wiC])]; simp [Value.cells]
  rw [hov, hz1] at V3
  rw [hz1] at e3 C3
  have K3 : Keeps h h3 := (N1.trans N2).step C3 fun b e => by omega
  have V13 := Ch.var (Ch.wf N2) C3 (Keeps.var (Ch.wf N1) N2 V1) (by omega)
  obtain ⟨w1, w2, w3, w4⟩ := wi_load V3
  obtain ⟨_, pb5, pb6, pb7, pb8, _, pb10⟩ := pa_load V13
  have S3 := S.keeps K3
  have RV3 : RR h3 rv P.rs := Rd.keeps RV K3
  have LR := RV3.len underlying51
  have hn : (imax 0 (imin P.rs.length P.rows)) = (shownN P : Int) := by unfold shownN; omega
  have hnl : shownN P ≤ P.rs.length := by omega
  have SH := Rd.sliceHi RV3 underlying51 asz50 (q' := .i64) (j := (shownN P : Int)) (by omega) (by omega)
  rw [Int.toNat_natCast] at SH
  have RP : RR h3 (sliceV rv 4 0 (shownN P)) (P.rs.take (shownN P)) := by
    have := RS.part RV3 cR_len (L := 0) (H := shownN P) (by omega) hnl
    simpa using this
  have hrl : (P.rs.take (shownN P)).length = shownN P := by rw [List.length_take]; omega
  have LP := RP.len underlying51
  rw [hrl] at LP
  simp only [wk, wt, wl, ↓reduceIte, Nat.reduceEqDiff, Nat.reduceAdd, Nat.zero_add, not_false_eq_true, not_true_eq_false, pt, aeff_box, bx, newSz, hz1, pa0, e3, pb6, LR, w3, mnV, mxV, hn, SH, LP]
  have hTL0 : l.length = l.length := rfl
  refine W_loop (fun tm hh => tm 0 = pt cb ∧ tm 3 = pt h.size ∧ tm 4 = pt (h.size + 1) ∧ tm 21 = sliceV rv 4 0 (shownN P) ∧ tm 22 = .int .i64 (shownN P : Int) ∧ ∃ (i : Nat) (l2 : List Cel), tm 23 = .int .i64 (i : Int) ∧ i ≤ shownN P ∧ DS h0 hh cb kb R C l2 ∧ l2.length = l.length ∧ Ch (fun b => b = kb) h3 hh ∧ TxLe (m + 100640000 * i) l2 ∧ rowsM R C P 0 (P.rs.take (shownN P)) l = rowsM R C P i ((P.rs.take (shownN P)).drop i) l2)
    (fun tm _ => (shownN P - intOf (tm 23)).toNat) ⟨(by first | rfl | (simp only [wk, wt, wl, ↓reduceIte, Nat.reduceEqDiff, Nat.reduceAdd, Nat.zero_add, not_false_eq_true, not_true_eq_false]; done) | (simp only [wk, wt, wl, ↓reduceIte, Nat.reduceEqDiff, Nat.reduceAdd, Nat.zero_add, not_false_eq_true, not_true_eq_false]; rfl) | (simp only [wk, wt, wl, ↓reduceIte, Nat.reduceEqDiff, Nat.reduceAdd, Nat.zero_add, not_false_eq_true, not_true_eq_false, pt]; done) | (simp only [wk, wt, wl, ↓reduceIte, Nat.reduceEqDiff, Nat.reduceAdd, Nat.zero_add, not_false_eq_true, not_true_eq_false, pt]; rfl)), (by first | rfl | (simp only [wk, wt, wl, ↓reduceIte, Nat.reduceEqDiff, Nat.reduceAdd, Nat.zero_add, not_false_eq_true, not_true_eq_false]; done) | (simp only [wk, wt, wl, ↓reduceIte, Nat.reduceEqDiff, Nat.reduceAdd, Nat.zero_add, not_false_eq_true, not_true_eq_false]; rfl) | (simp only [wk, wt, wl, ↓reduceIte, Nat.reduceEqDiff, Nat.reduceAdd, Nat.zero_add, not_false_eq_true, not_true_eq_false, pt]; done) | (simp only [wk, wt, wl, ↓reduceIte, Nat.reduceEqDiff, Nat.reduceAdd, Nat.zero_add, not_false_eq_true, not_true_eq_false, pt]; rfl)), (by first | rfl | (simp only [wk, wt, wl, ↓reduceIte, Nat.reduceEqDiff, Nat.reduceAdd, Nat.zero_add, not_false_eq_true, not_true_eq_false]; done) | (simp only [wk, wt, wl, ↓reduceIte, Nat.reduceEqDiff, Nat.reduceAdd, Nat.zero_add, not_false_eq_true, not_true_eq_false]; rfl) | (simp only [wk, wt, wl, ↓reduceIte, Nat.reduceEqDiff, Nat.reduceAdd, Nat.zero_add, not_false_eq_true, not_true_eq_false, pt]; done) | (simp only [wk, wt, wl, ↓reduceIte, Nat.reduceEqDiff, Nat.reduceAdd, Nat.zero_add, not_false_eq_true, not_true_eq_false, pt]; rfl)), (by first | rfl | (simp only [wk, wt, wl, ↓reduceIte, Nat.reduceEqDiff, Nat.reduceAdd, Nat.zero_add, not_false_eq_true, not_true_eq_false]; done) | (simp only [wk, wt, wl, ↓reduceIte, Nat.reduceEqDiff, Nat.reduceAdd, Nat.zero_add, not_false_eq_true, not_true_eq_false]; rfl)), (by first | rfl | (simp only [wk, wt, wl, ↓reduceIte, Nat.reduceEqDiff, Nat.reduceAdd, Nat.zero_add, not_false_eq_true, not_true_eq_false]; done) | (simp only [wk, wt, wl, ↓reduceIte, Nat.reduceEqDiff, Nat.reduceAdd, Nat.zero_add, not_false_eq_true, not_true_eq_false]; rfl)), 0, l, (by first | rfl | (simp only [wk, wt, wl, ↓reduceIte, Nat.reduceEqDiff, Nat.reduceAdd, Nat.zero_add, not_false_eq_true, not_true_eq_false]; done) | (simp only [wk, wt, wl, ↓reduceIte, Nat.reduceEqDiff, Nat.reduceAdd, Nat.zero_add, not_false_eq_true, not_true_eq_false]; rfl)), by omega, S3, rfl, (Keeps.refl (Ch.wf K3)).mono fun b e => e.elim, by simpa using hT, rfl⟩ ?_
  rintro tm hh ⟨t0, t3, t4, t21, t22, i, l2, t23, hi2, S2, hl2, C2, T2, hR⟩
  simp only [wk, wt, wl, ↓reduceIte, Nat.reduceEqDiff, Nat.reduceAdd, Nat.zero_add, not_false_eq_true, not_true_eq_false, t0, t3, t4, t21, t22, t23]
  refine condK_dec (fun hd => ?_) (fun hd => ?_)
  case refine_2 =>
    have hi3 : i = shownN P := by omega
    rw [List.drop_eq_nil_of_le (by omega)] at hR
    simp only [rowsM] at hR
    simp only [wk, wt, wl, ↓reduceIte, Nat.reduceEqDiff, Nat.reduceAdd, Nat.zero_add, not_false_eq_true, not_true_eq_false]
    have hp : paneM R C P l = l2 := hR
    rw [hp]
    exact ⟨S2, (K3.mono fun b e => e.elim).then C2 fun b e => .inr e, fun c hc => by have := T2 c hc; omega⟩
  have hi3 : i < shownN P := by omega
  obtain ⟨r, hr⟩ : ∃ r, (P.rs.take (shownN P))[i]? = some r := ⟨_, List.getElem?_eq_getElem (by omega)⟩
  have hrm : r ∈ P.rs := List.mem_of_mem_take (List.mem_of_getElem? hr)
  obtain ⟨hfo, ⟨p1, p2⟩, ⟨p3, p4⟩⟩ := orow r hrm
  rw [dropAt hr] at hR
  simp only [rowsM] at hR
  have RP2 : RR hh (sliceV rv 4 0 (shownN P)) (P.rs.take (shownN P)) := keepK S3 C2 RP (by decide)
  have LT3 : LT hh lv P.lines := keepLT S3 C2 (LTV.keeps K3)
  obtain ⟨_, _, _, _, RA⟩ := RR.flds RP2 hr
  have IR := Rd.index RP2 underlying51 asz50 (q := .i64) (i := (i : Int)) (by omega) (by rw [hrl]; omega)
  rw [Int.toNat_natCast] at IR
  obtain ⟨h4, e4, V4, K4, z4⟩ := row_var (Ch.wf C2) (r := r)
  have S4 := S2.keeps K4
  have hk3 : h3.size = h.size + 2 := by rw [z3]; rfl
  have hsz := Ch.le C2
  have Vp := Keeps.var (Ch.wf C2) K4 (Ch.var (Ch.wf K3) C2 V13 (by have := S.lt; omega))
  have Vw := Keeps.var (Ch.wf C2) K4 (Ch.var (Ch.wf K3) C2 V3 (by have := S.lt; omega))
  obtain ⟨w1', w2', w3', w4'⟩ := wi_load Vw
  have x1 : IntKind.i64.wrap (P.top + (i : Int)) = P.top + i := IntWalk.i64_in _ (by omega)
  have x2 : IntKind.i64.wrap (P.left + P.cols) = P.left + P.cols := IntWalk.i64_in _ (by omega)
  have wi : IntKind.i64.wrap ((i : Int) + 1) = ((i + 1 : Nat) : Int) := by rw [IntWalk.i64_in _ (by omega)]; omega
  have C4 := C2.then K4 fun b e => e.elim
  simp only [wk, wt, wl, ↓reduceIte, Nat.reduceEqDiff, Nat.reduceAdd, Nat.zero_add, not_false_eq_true, not_true_eq_false, t0, t3, t4, t21, t22, t23, pt, newSz, IR, RA, e4, w1', w2', w4', x1, x2]
  refine (pen_ok S4).use ?_
  rintro _ h5 ⟨pb, rfl, hpb, N5, K5⟩
  have S5 := S4.keeps K5
  have Vp5 := Keeps.var (Ch.wf C4) K5 Vp
  have Vr5 := Keeps.var (Ch.wf C4) K5 (show Var h4 hh.size (cR r) from V4)
  have Vw5 := Keeps.var (Ch.wf C4) K5 Vw
  have LT5 := (LT3.keeps K4).keeps K5
  obtain ⟨_, q5, _, q7, q8, _, q10⟩ := pa_load Vp5
  obtain ⟨r0, r1, r2, r3⟩ := cR_load Vr5
  have K25 := K4.trans K5
  have C5 := C2.then K25 fun b e => e.elim
  have hp0 : h0.size ≤ pb := by have := S2.K; have := Ch.le S4.K; omega
  have hz4 : h4.size = hh.size + 1 := z4
  have hpl : 0 ≤ imax P.left 0 := by omega
  have hphi : imin (P.left + P.cols) C ≤ C := by omega
  by_cases g1 : r.ln < 0
  · have d1 := decide_eq_true g1
    have hrow : rowM R C P l2 i r = (textM R C (P.top + i) (imax P.left 0) (imin (P.left + P.cols) C) 0 l2 P.left [126]).l := by unfold rowM; rw [if_pos (.inl g1)]
    have K6 := Keeps.new (Ch.wf C5) 21 [.int .i32 126]
    have X6 : RdI prog (h5.new 21 [.int .i32 126]) .i32 (.slice (some ⟨h5.size, 0, none⟩) 1 2) [126] := Rd.new (Ch.wf C5) asz21 rfl
    simp only [wk, wt, wl, ↓reduceIte, Nat.reduceEqDiff, Nat.reduceAdd, Nat.zero_add, not_false_eq_true, not_true_eq_false, t0, t3, t4, t21, t22, t23, pt, r0, d1]
    refine (text_ok gl (S5.keeps K6) (N5.ch (Ch.wf C5) K6 id) hp0 hpl hphi X6 (fun x hx => by rw [List.mem_singleton.1 hx]; unfold isR; omega) (by simp) (by omega) (fun c hc => by have := T2 c hc; omega)).use ?_
    rintro _ h7 ⟨rfl, S7, N7, C7⟩
    rw [← hrow] at S7
    have C67 := (C5.then K6 fun b e => e.elim).then C7 fun b e => e.elim .inr (fun q => .inl (by omega))
    have hlen := textM_len (R := R) (C := C) (y := P.top + i) (lo := imax P.left 0) (hi := imin (P.left + P.cols) C) (ar := 0) (col := P.left) (l := l2) (xs := [126]) hpl hphi hmm hl2
    rw [← hrow] at hlen
    simp only [wk, wt, wl, ↓reduceIte, Nat.reduceEqDiff, Nat.reduceAdd, Nat.zero_add, not_false_eq_true, not_true_eq_false, t0, t3, t4, t21, t22, t23, pt, wi, intOf_int]
    exact ⟨⟨i + 1, _, rfl, by omega, S7, hlen, C67, fun c hc => by
      rw [hrow] at hc
      have := textM_le (k := 1) (by omega) T2 (by simp) c hc
      omega, by rw [hR]; simp⟩, by omega⟩
  have d1 := decide_eq_false g1
  by_cases g2 : (P.lines.length : Int) ≤ r.ln
  · have d2 := decide_eq_true g2
    have hrow : rowM R C P l2 i r = (textM R C (P.top + i) (imax P.left 0) (imin (P.left + P.cols) C) 0 l2 P.left [126]).l := by unfold rowM; rw [if_pos (.inr g2)]
    have K6 := Keeps.new (Ch.wf C5) 21 [.int .i32 126]
    have X6 : RdI prog (h5.new 21 [.int .i32 126]) .i32 (.slice (some ⟨h5.size, 0, none⟩) 1 2) [126] := Rd.new (Ch.wf C5) asz21 rfl
    simp only [wk, wt, wl, ↓reduceIte, Nat.reduceEqDiff, Nat.reduceAdd, Nat.zero_add, not_false_eq_true, not_true_eq_false, t0, t3, t4, t21, t22, t23, pt, r0, d1, d2, q5, LT5.len]
    refine (text_ok gl (S5.keeps K6) (N5.ch (Ch.wf C5) K6 id) hp0 hpl hphi X6 (fun x hx => by rw [List.mem_singleton.1 hx]; unfold isR; omega) (by simp) (by omega) (fun c hc => by have := T2 c hc; omega)).use ?_
    rintro _ h7 ⟨rfl, S7, N7, C7⟩
    rw [← hrow] at S7
    have C67 := (C5.then K6 fun b e => e.elim).then C7 fun b e => e.elim .inr (fun q => .inl (by omega))
    have hlen := textM_len (R := R) (C := C) (y := P.top + i) (lo := imax P.left 0) (hi := imin (P.left + P.cols) C) (ar := 0) (col := P.left) (l := l2) (xs := [126]) hpl hphi hmm hl2
    rw [← hrow] at hlen
    simp only [wk, wt, wl, ↓reduceIte, Nat.reduceEqDiff, Nat.reduceAdd, Nat.zero_add, not_false_eq_true, not_true_eq_false, t0, t3, t4, t21, t22, t23, pt, wi, intOf_int]
    exact ⟨⟨i + 1, _, rfl, by omega, S7, hlen, C67, fun c hc => by
      rw [hrow] at hc
      have := textM_le (k := 1) (by omega) T2 (by simp) c hc
      omega, by rw [hR]; simp⟩, by omega⟩
  have d2 := decide_eq_false g2
  obtain ⟨n, hn2⟩ : ∃ n : Nat, r.ln = (n : Int) := ⟨r.ln.toNat, by omega⟩
  have hnl2 : n < P.lines.length := by omega
  obtain ⟨xs, hxs⟩ : ∃ xs, P.lines[n]? = some xs := ⟨_, List.getElem?_eq_getElem hnl2⟩
  obtain ⟨hx1, hx2⟩ := otext n xs hxs
  obtain ⟨xv, LX, XV⟩ := LT5.at hxs
  have IL := LT5.index hnl2
  rw [hn2] at r0 d1 d2
  have hrow : rowM R C P l2 i r = lineM R C (P.top + i) (imax P.left 0) (imin (P.left + P.cols) C) P.left r.fr r.to P.pl l2 (unitsL xs P.tab) := by
    unfold rowM
    rw [if_neg (by omega), hn2, Int.toNat_natCast, List.getD_eq_getElem?_getD, hxs]; rfl
  rw [hfo] at r3
  simp only [wk, wt, wl, ↓reduceIte, Nat.reduceEqDiff, Nat.reduceAdd, Nat.zero_add, not_false_eq_true, not_true_eq_false, t0, t3, t4, t21, t22, t23, pt, r0, d1, q5, LT5.len, d2, r3]
  refine adraw_order [(0, false), (1, false), (2, false), (3, false), (4, false), (5, false), (6, false), (7, false), (10, false), (8, true), (9, false)] mixed (by kernel_rfl) (by kernel_rfl) (by kernel_rfl) (by with_reducible repeat (first | exact PF_retK | refine PF_thenK ?_ | refine PF_blockK ?_)) ?_
  simp only [wk, wt, wl, ↓reduceIte, Nat.reduceEqDiff, Nat.reduceAdd, Nat.zero_add, not_false_eq_true, not_true_eq_false, dK_t, t0, t3, t4, t21, t22, t23, pt, r0, q5, q7, IL, LX]
  refine (units_ok XV (gl.keeps S5.K) hx1 hx2).use ?_
  rintro uv h6 ⟨uw, hus, UR6, K6⟩
  have S6 := S5.keeps K6
  have N6 := N5.ch (Ch.wf C5) K6 id
  have C6 := C5.then K6 fun b e => e.elim
  have Vp6 := Keeps.var (Ch.wf C5) K6 Vp5
  have Vr6 := Keeps.var (Ch.wf C5) K6 Vr5
  have Vw6 := Keeps.var (Ch.wf C5) K6 Vw5
  have hul : uw.length ≤ 10000 := by
    have := (unitsL_ok (line := xs) (tab := P.tab)).len
    rw [← hus, List.length_map] at this; omega
  have LU : abuiltin prog .len #[44] #[uv] = some (.int .i64 uw.length) := UR6.rd.len underlying44
  simp only [wk, wt, wl, ↓reduceIte, Nat.reduceEqDiff, Nat.reduceAdd, Nat.zero_add, not_false_eq_true, not_true_eq_false, dK_t]
  refine ⟨K6.reads (Ch.wf C5), ?_⟩
  simp only [wk, wt, wl, ↓reduceIte, Nat.reduceEqDiff, Nat.reduceAdd, Nat.zero_add, not_false_eq_true, not_true_eq_false, dK_t, LU]
  have hp3 : h3.size ≤ pb := by omega
  have hz5 := Ch.le K5
  have hpl5 : pb < h5.size := N5.V.1.lt (Ch.wf C5)
  have hz6 := Ch.le K6
  refine W_loop (fun tm h7 => tm 0 = pt cb ∧ tm 3 = pt h.size ∧ tm 4 = pt (h.size + 1) ∧ tm 21 = sliceV rv 4 0 (shownN P) ∧ tm 22 = .int .i64 (shownN P : Int) ∧ tm 23 = .int .i64 (i : Int) ∧ tm 6 = pt hh.size ∧ tm 7 = pt pb ∧ tm 51 = uv ∧ tm 52 = .int .i64 (uw.length : Int) ∧
      ∃ (j : Nat) (col ar : Int) (la : Option Nat), tm 53 = .int .i64 (j : Int) ∧ j ≤ uw.length ∧ DS h0 h7 cb kb R C (lineM R C (P.top + i) (imax P.left 0) (imin (P.left + P.cols) C) P.left r.fr r.to P.pl l2 ((unitsL xs P.tab).take j)) ∧ PN h7 pb cb kb (P.top + i) (imax P.left 0) (imin (P.left + P.cols) C) col ar la ∧ Ch (DP kb pb) h6 h7 ∧ UR h7 uv uw ∧
      Var h7 h.size (paC P lv rv sv a b c d e) ∧ Var h7 hh.size (cR r) ∧ Var h7 (h.size + 1) (wiC P) ∧ (lineM R C (P.top + i) (imax P.left 0) (imin (P.left + P.cols) C) P.left r.fr r.to P.pl l2 ((unitsL xs P.tab).take j)).length = l.length ∧ TxLe (m + 100640000 * i + 10064 * j) (lineM R C (P.top + i) (imax P.left 0) (imin (P.left + P.cols) C) P.left r.fr r.to P.pl l2 ((unitsL xs P.tab).take j)))
    (fun tm _ => (uw.length - intOf (tm 53)).toNat) ⟨(by first | rfl | (simp only [wk, wt, wl, ↓reduceIte, Nat.reduceEqDiff, Nat.reduceAdd, Nat.zero_add, not_false_eq_true, not_true_eq_false]; done) | (simp only [wk, wt, wl, ↓reduceIte, Nat.reduceEqDiff, Nat.reduceAdd, Nat.zero_add, not_false_eq_true, not_true_eq_false]; rfl) | (simp only [wk, wt, wl, ↓reduceIte, Nat.reduceEqDiff, Nat.reduceAdd, Nat.zero_add, not_false_eq_true, not_true_eq_false, t0, pt]; done) | (simp only [wk, wt, wl, ↓reduceIte, Nat.reduceEqDiff, Nat.reduceAdd, Nat.zero_add, not_false_eq_true, not_true_eq_false, t0, pt]; rfl)), (by first | rfl | (simp only [wk, wt, wl, ↓reduceIte, Nat.reduceEqDiff, Nat.reduceAdd, Nat.zero_add, not_false_eq_true, not_true_eq_false]; done) | (simp only [wk, wt, wl, ↓reduceIte, Nat.reduceEqDiff, Nat.reduceAdd, Nat.zero_add, not_false_eq_true, not_true_eq_false]; rfl) | (simp only [wk, wt, wl, ↓reduceIte, Nat.reduceEqDiff, Nat.reduceAdd, Nat.zero_add, not_false_eq_true, not_true_eq_false, t3, pt]; done) | (simp only [wk, wt, wl, ↓reduceIte, Nat.reduceEqDiff, Nat.reduceAdd, Nat.zero_add, not_false_eq_true, not_true_eq_false, t3, pt]; rfl)), (by first | rfl | (simp only [wk, wt, wl, ↓reduceIte, Nat.reduceEqDiff, Nat.reduceAdd, Nat.zero_add, not_false_eq_true, not_true_eq_false]; done) | (simp only [wk, wt, wl, ↓reduceIte, Nat.reduceEqDiff, Nat.reduceAdd, Nat.zero_add, not_false_eq_true, not_true_eq_false]; rfl) | (simp only [wk, wt, wl, ↓reduceIte, Nat.reduceEqDiff, Nat.reduceAdd, Nat.zero_add, not_false_eq_true, not_true_eq_false, t4, pt]; done) | (simp only [wk, wt, wl, ↓reduceIte, Nat.reduceEqDiff, Nat.reduceAdd, Nat.zero_add, not_false_eq_true, not_true_eq_false, t4, pt]; rfl)), (by first | rfl | (simp only [wk, wt, wl, ↓reduceIte, Nat.reduceEqDiff, Nat.reduceAdd, Nat.zero_add, not_false_eq_true, not_true_eq_false]; done) | (simp only [wk, wt, wl, ↓reduceIte, Nat.reduceEqDiff, Nat.reduceAdd, Nat.zero_add, not_false_eq_true, not_true_eq_false]; rfl) | (simp only [wk, wt, wl, ↓reduceIte, Nat.reduceEqDiff, Nat.reduceAdd, Nat.zero_add, not_false_eq_true, not_true_eq_false, t21]; done) | (simp only [wk, wt, wl, ↓reduceIte, Nat.reduceEqDiff, Nat.reduceAdd, Nat.zero_add, not_false_eq_true, not_true_eq_false, t21]; rfl)), (by first | rfl | (simp only [wk, wt, wl, ↓reduceIte, Nat.reduceEqDiff, Nat.reduceAdd, Nat.zero_add, not_false_eq_true, not_true_eq_false]; done) | (simp only [wk, wt, wl, ↓reduceIte, Nat.reduceEqDiff, Nat.reduceAdd, Nat.zero_add, not_false_eq_true, not_true_eq_false]; rfl) | (simp only [wk, wt, wl, ↓reduceIte, Nat.reduceEqDiff, Nat.reduceAdd, Nat.zero_add, not_false_eq_true, not_true_eq_false, t22]; done) | (simp only [wk, wt, wl, ↓reduceIte, Nat.reduceEqDiff, Nat.reduceAdd, Nat.zero_add, not_false_eq_true, not_true_eq_false, t22]; rfl)), (by first | rfl | (simp only [wk, wt, wl, ↓reduceIte, Nat.reduceEqDiff, Nat.reduceAdd, Nat.zero_add, not_false_eq_true, not_true_eq_false]; done) | (simp only [wk, wt, wl, ↓reduceIte, Nat.reduceEqDiff, Nat.reduceAdd, Nat.zero_add, not_false_eq_true, not_true_eq_false]; rfl) | (simp only [wk, wt, wl, ↓reduceIte, Nat.reduceEqDiff, Nat.reduceAdd, Nat.zero_add, not_false_eq_true, not_true_eq_false, t23]; done) | (simp only [wk, wt, wl, ↓reduceIte, Nat.reduceEqDiff, Nat.reduceAdd, Nat.zero_add, not_false_eq_true, not_true_eq_false, t23]; rfl)), (by first | rfl | (simp only [wk, wt, wl, ↓reduceIte, Nat.reduceEqDiff, Nat.reduceAdd, Nat.zero_add, not_false_eq_true, not_true_eq_false]; done) | (simp only [wk, wt, wl, ↓reduceIte, Nat.reduceEqDiff, Nat.reduceAdd, Nat.zero_add, not_false_eq_true, not_true_eq_false]; rfl) | (simp only [wk, wt, wl, ↓reduceIte, Nat.reduceEqDiff, Nat.reduceAdd, Nat.zero_add, not_false_eq_true, not_true_eq_false, pt]; done) | (simp only [wk, wt, wl, ↓reduceIte, Nat.reduceEqDiff, Nat.reduceAdd, Nat.zero_add, not_false_eq_true, not_true_eq_false, pt]; rfl)), (by first | rfl | (simp only [wk, wt, wl, ↓reduceIte, Nat.reduceEqDiff, Nat.reduceAdd, Nat.zero_add, not_false_eq_true, not_true_eq_false]; done) | (simp only [wk, wt, wl, ↓reduceIte, Nat.reduceEqDiff, Nat.reduceAdd, Nat.zero_add, not_false_eq_true, not_true_eq_false]; rfl) | (simp only [wk, wt, wl, ↓reduceIte, Nat.reduceEqDiff, Nat.reduceAdd, Nat.zero_add, not_false_eq_true, not_true_eq_false, pt]; done) | (simp only [wk, wt, wl, ↓reduceIte, Nat.reduceEqDiff, Nat.reduceAdd, Nat.zero_add, not_false_eq_true, not_true_eq_false, pt]; rfl)), (by first | rfl | (simp only [wk, wt, wl, ↓reduceIte, Nat.reduceEqDiff, Nat.reduceAdd, Nat.zero_add, not_false_eq_true, not_true_eq_false]; done) | (simp only [wk, wt, wl, ↓reduceIte, Nat.reduceEqDiff, Nat.reduceAdd, Nat.zero_add, not_false_eq_true, not_true_eq_false]; rfl)), (by first | rfl | (simp only [wk, wt, wl, ↓reduceIte, Nat.reduceEqDiff, Nat.reduceAdd, Nat.zero_add, not_false_eq_true, not_true_eq_false]; done) | (simp only [wk, wt, wl, ↓reduceIte, Nat.reduceEqDiff, Nat.reduceAdd, Nat.zero_add, not_false_eq_true, not_true_eq_false]; rfl)), 0, _, _, _, (by first | rfl | (simp only [wk, wt, wl, ↓reduceIte, Nat.reduceEqDiff, Nat.reduceAdd, Nat.zero_add, not_false_eq_true, not_true_eq_false]; done) | (simp only [wk, wt, wl, ↓reduceIte, Nat.reduceEqDiff, Nat.reduceAdd, Nat.zero_add, not_false_eq_true, not_true_eq_false]; rfl)), by omega, by simpa [lineM] using S6, N6, (Keeps.refl (Ch.wf C6)).mono fun b e => e.elim, UR6, Vp6, Vr6, Vw6, by simpa [lineM] using hl2, by simpa [lineM] using T2⟩ ?_
  clear t0 t3 t4 t21 t22 t23 S6 N6 Vp6 Vr6 Vw6
  rintro tm h7 ⟨t0, t3, t4, t21, t22, t23, t6, t7, t51, t52, j, col, ar, la, t53, hj2, S7, N7, C7, UR7, Vp7, Vr7, Vw7, hl7, T7⟩
  have C67 := C6.then C7 fun b e => e.elim .inr (fun q => .inl (by omega))
  simp only [wk, wt, wl, ↓reduceIte, Nat.reduceEqDiff, Nat.reduceAdd, Nat.zero_add, not_false_eq_true, not_true_eq_false, t51, t52, t53]
  refine condK_dec (fun hd => ?_) (fun hd => ?_)
  case refine_2 =>
    have hall : (unitsL xs P.tab).take j = unitsL xs P.tab := List.take_of_length_le (by rw [← hus, List.length_map]; omega)
    rw [hall, ← hrow] at S7 T7 hl7
    simp only [wk, wt, wl, ↓reduceIte, Nat.reduceEqDiff, Nat.reduceAdd, Nat.zero_add, not_false_eq_true, not_true_eq_false, t0, t3, t4, t21, t22, t23, pt, wi, intOf_int]
    exact ⟨⟨i + 1, _, rfl, by omega, S7, hl7, C67, fun c hc => by have := T7 c hc; omega, by rw [hR]; simp⟩, by omega⟩
  have hju : j < uw.length := by omega
  have hu : (unitsL xs P.tab)[j]? = some (uw[j]).1 := units_get hus hju
  have hmem := List.mem_of_getElem? hu
  have hub := unit_bounds hx2 hmem
  have htx := unit_tx hmem
  have hsn := lineM_snoc (R := R) (C := C) (y := P.top + i) (lo := imax P.left 0) (hi := imin (P.left + P.cols) C) (left := P.left) (fr := r.fr) (to := r.to) (pl := P.pl) (l := l2) hu
  generalize lineM R C (P.top + i) (imax P.left 0) (imin (P.left + P.cols) C) P.left r.fr r.to P.pl l2 ((unitsL xs P.tab).take j) = l3 at *
  have IU := Rd.index UR7.rd underlying44 asz61 (q := .i64) (i := (j : Int)) (by omega) (by omega)
  rw [Int.toNat_natCast] at IU
  have UX := UR7.at hju
  have TX := UR7.txt _ (List.getElem_mem hju)
  obtain ⟨h8, e8, V8, K8, z8⟩ := unit_var (Ch.wf C67) (u := (uw[j]).1) (tv := (uw[j]).2) (Rd.one TX)
  obtain ⟨u0, u2, u4⟩ := unitC_load V8
  have S8 := S7.keeps K8
  have N8 := N7.ch (Ch.wf C67) K8 id
  have Vp8 := Keeps.var (Ch.wf C67) K8 Vp7
  have Vr8 := Keeps.var (Ch.wf C67) K8 Vr7
  have Vw8 := Keeps.var (Ch.wf C67) K8 Vw7
  obtain ⟨_, _, _, _, y8, _, y10⟩ := pa_load Vp8
  obtain ⟨_, s1, s2, _⟩ := cR_load Vr8
  obtain ⟨_, ww2, _, _⟩ := wi_load Vw8
  have wj : IntKind.i64.wrap ((j : Int) + 1) = ((j + 1 : Nat) : Int) := by rw [IntWalk.i64_in _ (by omega)]; omega
  have C8 := C7.then K8 fun b e => e.elim
  have hlts := S7.lt
  have hskip : ((uw[j]).1.col < r.fr ∨ r.to ≤ (uw[j]).1.col) → ∀ {q : Prop}, q → q := fun _ q h => h
  by_cases g3 : (uw[j]).1.col < r.fr
  · have d3 := decide_eq_true g3
    rw [if_pos (.inl g3)] at hsn
    simp only [wk, wt, wl, ↓reduceIte, Nat.reduceEqDiff, Nat.reduceAdd, Nat.zero_add, not_false_eq_true, not_true_eq_false, t0, t3, t4, t21, t22, t23, t6, t7, t51, t52, t53, pt, newSz, IU, UX, e8, u2, s1, d3, wj, intOf_int]
    exact ⟨⟨j + 1, col, ar, la, rfl, by omega, by rw [hsn]; exact S8, N8, C8, UR7.keeps K8, Vp8, Vr8, Vw8, by rw [hsn]; exact hl7, by rw [hsn]; exact fun c hc => by have := T7 c hc; omega⟩, by omega⟩
  have d3 := decide_eq_false g3
  by_cases g4 : r.to ≤ (uw[j]).1.col
  · have d4 := decide_eq_true g4
    rw [if_pos (.inr g4)] at hsn
    simp only [wk, wt, wl, ↓reduceIte, Nat.reduceEqDiff, Nat.reduceAdd, Nat.zero_add, not_false_eq_true, not_true_eq_false, t0, t3, t4, t21, t22, t23, t6, t7, t51, t52, t53, pt, newSz, IU, UX, e8, u2, s1, d3, s2, d4, wj, intOf_int]
    exact ⟨⟨j + 1, col, ar, la, rfl, by omega, by rw [hsn]; exact S8, N8, C8, UR7.keeps K8, Vp8, Vr8, Vw8, by rw [hsn]; exact hl7, by rw [hsn]; exact fun c hc => by have := T7 c hc; omega⟩, by omega⟩
  have d4 := decide_eq_false g4
  rw [if_neg (fun q => q.elim g3 g4)] at hsn
  have y1 : IntKind.i64.wrap (P.left + (uw[j]).1.col) = P.left + (uw[j]).1.col := IntWalk.i64_in _ (by omega)
  have y2 : IntKind.i64.wrap (P.left + (uw[j]).1.col - r.fr) = P.left + (uw[j]).1.col - r.fr := IntWalk.i64_in _ (by omega)
  have y3 : IntKind.i64.wrap (P.left + (uw[j]).1.col - r.fr - P.pl) = P.left + (uw[j]).1.col - r.fr - P.pl := IntWalk.i64_in _ (by omega)
  obtain ⟨h9, e9, N9, C9, z9⟩ := N8.setCol (Ch.wf C8) (P.left + (uw[j]).1.col - r.fr - P.pl)
  have S9 := S8.ch C9 (N8.oth hp0)
  have CC9 := C8.then C9 fun b e => .inr (.inr e)
  obtain ⟨h10, e10, N10, C10, z10⟩ := N9.setAr (Ch.wf CC9) 0
  have S10 := S9.ch C10 (N9.oth hp0)
  have CC10 := CC9.then C10 fun b e => .inr (.inr e)
  have C810 : Ch (fun b => b = pb) h8 h10 := C9.then C10 fun b e => .inr e
  have V810 : ∀ {x : Nat} {cs : List Value}, Var h8 x cs → x ≠ pb → Var h10 x cs := fun V q => Ch.var (Ch.wf C8) C810 V q
  have Vp10 := V810 Vp8 (by omega)
  have Vr10 := V810 Vr8 (by omega)
  have Vw10 := V810 Vw8 (by omega)
  have Vu10 := V810 V8 (by have := N7.V.1.lt (Ch.wf C67); omega)
  obtain ⟨_, _, _, _, _, _, yy10⟩ := pa_load Vp10
  obtain ⟨_, _, uu4⟩ := unitC_load Vu10
  have TX10 : RdI prog h10 .i32 (uw[j]).2 (uw[j]).1.tx := keepDP N8 S8 (C810.mono fun b e => .inr e) (TX.keeps K8) (by decide) (by decide)
  have UR10 : UR h10 uv uw := keepUR2 N8 S8 (C810.mono fun b e => .inr e) (UR7.keeps K8)
  simp only [wk, wt, wl, ↓reduceIte, Nat.reduceEqDiff, Nat.reduceAdd, Nat.zero_add, not_false_eq_true, not_true_eq_false, t0, t3, t4, t21, t22, t23, t6, t7, t51, t52, t53, pt, newSz, IU, UX, e8, u2, s1, d3, s2, d4, ww2, y8, y1, y2, y3, e9, e10, yy10, uu4]
  refine (text_ok gl S10 N10 hp0 hpl hphi TX10 (unitsL_isR hx1 _ hmem) (by omega) (by omega) (fun c hc => by have := T7 c hc; omega)).use ?_
  rintro _ h11 ⟨rfl, S11, N11, C11⟩
  have C611 := CC10.then C11 fun b e => .inr e
  have V1011 : ∀ {x : Nat} {cs : List Value}, Var h10 x cs → x ≠ pb → x ≠ kb → Var h11 x cs := fun V q q2 => Ch.var (Ch.wf CC10) C11 V (fun e => e.elim q2 q)
  have hlen := textM_len (R := R) (C := C) (y := P.top + i) (lo := imax P.left 0) (hi := imin (P.left + P.cols) C) (ar := 0) (col := P.left + (uw[j]).1.col - r.fr - P.pl) (l := l3) (xs := (uw[j]).1.tx) hpl hphi hmm hl7
  simp only [wk, wt, wl, ↓reduceIte, Nat.reduceEqDiff, Nat.reduceAdd, Nat.zero_add, not_false_eq_true, not_true_eq_false, t0, t3, t4, t21, t22, t23, t6, t7, t51, t52, t53, pt, wj, intOf_int]
  have hkb := S.lt
  have fin : TxLe (m + 100640000 * i + 10064 * (j + 1)) (textM R C (P.top + i) (imax P.left 0) (imin (P.left + P.cols) C) 0 l3 (P.left + (uw[j]).1.col - r.fr - P.pl) (uw[j]).1.tx).l := fun c hc => by
    have := textM_le (by omega) T7 htx c hc
    omega
  exact ⟨⟨j + 1, _, _, _, rfl, by omega, by rw [hsn]; exact S11, N11, C611, keepUR2 N10 S10 C11 UR10, V1011 Vp10 (by omega) (by omega), V1011 Vr10 (by omega) (by omega), V1011 Vw10 (by omega) (by omega), by rw [hsn]; exact hlen, by rw [hsn]; exact fin⟩, by omega⟩
end Go.Proofs.YtcgajolmjjeibaaDoor.Am
end
section
/- Grids, the program: contracts of Blank, Draw (of one pane at most), by walks. -/
set_option linter.unusedSimpArgs false
set_option linter.unusedVariables false
set_option maxHeartbeats 4000000
set_option maxRecDepth 20000
namespace Go.Proofs.YtcgajolmjjeibaaDoor.Am
open Go Go.RowKit Go.Proofs.Tryd
theorem zeroRow (n : Nat) : (firstOf (n * 3) #[.slice none 0 0, .int .i64 0, .bool false]).toList = (List.replicate n zC).flatMap cC := by
  refine List.ext_getElem? fun j => ?_
  rcases Nat.lt_or_ge j (n * 3) with hj | hj
  · have hd : j / 3 < n := by omega
    have e : j / 3 * 3 + j % 3 = j := by omega
    have hR := fm_at cC_len (l := List.replicate n zC) (i := j / 3) (j := j % 3) (x := zC) (by simp [hd]) (by omega)
    rw [e] at hR
    rw [hR]
    have hm : j % 3 = 0 ∨ j % 3 = 1 ∨ j % 3 = 2 := by omega
    rcases hm with hm | hm | hm <;> simp [firstOf, hj, hm, cC, zC]
  · rw [List.getElem?_eq_none (by simp [firstOf]; omega), List.getElem?_eq_none (by rw [fm_len cC_len]; simp; omega)]
theorem mkCells {h : Heap} {n : Nat} (hn : n ≤ 500000) : amakeSlice prog h 27 (.int .i64 n) (.int .i64 n) = some (.slice (some ⟨h.size, 0, none⟩) n (n + 1), h.new 63 ((List.replicate n zC).flatMap cC)) := by
  rw [← zeroRow]
  obtain ⟨f1, f2, f3⟩ := fits63
  simp only [amakeSlice, underlying27, elem63, azero63, f2, f3]
  rw [if_pos ⟨by omega, by omega, by omega, by omega, by simp [Value.cells, one], rfl⟩]
  simp [Value.cells]
theorem replAt {i n : Nat} {a b : Cel} (hi : i < n) : (List.replicate i a ++ List.replicate (n - i) b).set i a = List.replicate (i + 1) a ++ List.replicate (n - (i + 1)) b := by
  refine List.ext_getElem? fun j => ?_
  simp only [List.getElem?_set, List.getElem?_append, List.getElem?_replicate, List.length_append, List.length_replicate]
  (repeat' split) <;> first | rfl | (exfalso; omega) | omega
def gridV (R C : Int) (kb n : Nat) (y x : Int) : Value := .agg (canC R C kb n y x).toArray
theorem blankG_ok {h : Heap} {r c : Int} : ACalls prog 31 #[.int .i64 r, .int .i64 c] h (fun y h' => ∃ kb, y = gridV (sizeR r) (sizeC c) kb (blankL r c).length 0 0 ∧ CV h' kb (blankL r c) ∧ h.size ≤ kb ∧ Keeps h h') := by
  refine acalls_of_W' func31 rfl (by kernel_rfl) (by kernel_rfl) (by simp [ntmps31]) ?_
  intro H
  have hRC := size_rc r c
  obtain ⟨hm, hnn⟩ := size_mul r c
  obtain ⟨n, hn⟩ : ∃ n : Nat, (blankL r c).length = n := ⟨_, rfl⟩
  have hbl : blankL r c = List.replicate n (bl 0) := by rw [← hn]; unfold blankL; rw [List.length_replicate]
  rw [hn] at hm hnn
  rw [hbl, List.length_replicate]
  have hsr : imin (imax r 2) 500 = sizeR r := rfl
  have hsc : imin (imax c 2) 1000 = sizeC c := rfl
  have wm : IntKind.i64.wrap (sizeR r * sizeC c) = (n : Int) := by rw [← hm]; exact IntWalk.i64_in _ (by omega)
  generalize sizeR r = R at *
  generalize sizeC c = C at *
  have N1 := Keeps.new H 29 [.int .i64 0, .int .i64 0, .slice none 0 0, .int .i64 0, .int .i64 0]
  have N2 := Keeps.new (Ch.wf N1) 29 [.int .i64 0, .int .i64 0, .slice none 0 0, .int .i64 0, .int .i64 0]
  have V2 := VarE.new (e := 29) (Ch.wf N1) (cs := [.int .i64 0, .int .i64 0, .slice none 0 0, .int .i64 0, .int .i64 0])
  have U2 := (VarE.new (e := 29) H (cs := [.int .i64 0, .int .i64 0, .slice none 0 0, .int .i64 0, .int .i64 0])).keeps (Ch.wf N1) N2
  simp only [new_size] at V2
  have bg : abuild prog 29 #[(0, .int .i64 R), (1, .int .i64 C)] = some (.agg #[.int .i64 R, .int .i64 C, .slice none 0 0, .int .i64 0, .int .i64 0]) := by simp [abuild, wt, aplaces, Instr.fill, Value.cells]
  simp only [wk, wt, wl, ↓reduceIte, Nat.reduceEqDiff, Nat.reduceAdd, Nat.zero_add, not_false_eq_true, not_true_eq_false, mxV, mnV, hsr, hsc, new_size, bg]
  have K2 := N1.trans N2
  generalize (h.new 29 [.int .i64 0, .int .i64 0, .slice none 0 0, .int .i64 0, .int .i64 0]).new 29 [.int .i64 0, .int .i64 0, .slice none 0 0, .int .i64 0, .int .i64 0] = h2 at *
  obtain ⟨h3, e3, V3, C3, z3⟩ := V2.store (Ch.wf N2) (t := 29) (v := .agg #[.int .i64 R, .int .i64 C, .slice none 0 0, .int .i64 0, .int .i64 0]) (i := 0) asz29 (by simp [Value.cells]) (by simp [Value.cells, one])
  simp only [Value.cells, over_all (xs := [.int .i64 0, .int .i64 0, .slice none 0 0, .int .i64 0, .int .i64 0]) (vs := [.int .i64 R, .int .i64 C, .slice none 0 0, .int .i64 0, .int .i64 0]) rfl] at V3
  have K3 := K2.step C3 fun y e => by omega
  have U3 := U2.ch (Ch.wf K2) C3 (by omega)
  have L0 := V3.1.load1 (P := prog) (i := 0) (t := 3) underlying3 rfl
  have L1 := V3.1.load1 (P := prog) (i := 1) (t := 3) underlying3 rfl
  simp only [List.getElem?_cons_succ, List.getElem?_cons_zero] at L0 L1
  have N4 := Keeps.new (Ch.wf K3) 63 ((List.replicate n zC).flatMap cC)
  have K4 := K3.trans N4
  have V4 := V3.keeps (Ch.wf K3) N4
  have U4 := U3.keeps (Ch.wf K3) N4
  have hh3 : h.size + 1 < h3.size := V3.1.lt (Ch.wf K3)
  have hz4 : (h3.new 63 ((List.replicate n zC).flatMap cC)).size = h3.size + 1 := rfl
  obtain ⟨h5, e5, V5, C5, z5⟩ := V4.store1 (Ch.wf K4) (t := 27) (v := cvS h3.size n) (i := 2) asz27 (by simp) rfl
  simp only [List.set_cons_succ, List.set_cons_zero] at V5
  have K5 := K4.step C5 fun y e => by omega
  have G5 : CV h5 h3.size (List.replicate n ⟨[], 0, false⟩) := ⟨List.replicate n zC, by simp [zC], (VarE.new (Ch.wf K3)).ch (Ch.wf K4) C5 (by omega), fun p hp => by
    obtain rfl := (List.mem_replicate.1 hp).2
    exact Rd.nil0⟩
  have U5 := U4.ch (Ch.wf K4) C5 (by omega)
  have L2 := fun {hh : Heap} {R C : Int} (V : VarE hh (h.size + 1) 29 [.int .i64 R, .int .i64 C, cvS h3.size n, .int .i64 0, .int .i64 0]) => V.1.load1 (P := prog) (i := 2) (t := 27) underlying27 rfl
  have LA := fun {hh : Heap} {R C : Int} (V : VarE hh (h.size + 1) 29 [.int .i64 R, .int .i64 C, cvS h3.size n, .int .i64 0, .int .i64 0]) => V.1.loadA (P := prog) (t := 29) underlying29 rfl asz29
  simp only [List.getElem?_cons_succ, List.getElem?_cons_zero] at L2
  have mk := mkCells (h := h3) hnn
  have hcv : Value.slice (some ⟨h3.size, 0, none⟩) n (n + 1) = cvS h3.size n := rfl
  rw [hcv] at mk
  simp only [wk, wt, wl, ↓reduceIte, Nat.reduceEqDiff, Nat.reduceAdd, Nat.zero_add, not_false_eq_true, not_true_eq_false, e3, L0, L1, wm, mk, e5, L2 V5, CV.len]
  refine W_loop (fun tm h' => Keeps h h' ∧ tm 4 = pt h.size ∧ tm 5 = pt (h.size + 1) ∧ tm 23 = .int .i64 n ∧ ∃ (i : Nat), tm 24 = .int .i64 i ∧ i ≤ n ∧ VarE h' (h.size + 1) 29 [.int .i64 R, .int .i64 C, cvS h3.size n, .int .i64 0, .int .i64 0] ∧ VarE h' h.size 29 [.int .i64 0, .int .i64 0, .slice none 0 0, .int .i64 0, .int .i64 0] ∧ h3.size < h'.size ∧
      CV h' h3.size (List.replicate i (bl 0) ++ List.replicate (n - i) ⟨[], 0, false⟩))
    (fun tm _ => (n - intOf (tm 24)).toNat) ⟨K5, (by first | rfl | (simp only [wk, wt, wl, ↓reduceIte, Nat.reduceEqDiff, Nat.reduceAdd, Nat.zero_add, not_false_eq_true, not_true_eq_false]; done) | (simp only [wk, wt, wl, ↓reduceIte, Nat.reduceEqDiff, Nat.reduceAdd, Nat.zero_add, not_false_eq_true, not_true_eq_false]; rfl)), (by first | rfl | (simp only [wk, wt, wl, ↓reduceIte, Nat.reduceEqDiff, Nat.reduceAdd, Nat.zero_add, not_false_eq_true, not_true_eq_false]; done) | (simp only [wk, wt, wl, ↓reduceIte, Nat.reduceEqDiff, Nat.reduceAdd, Nat.zero_add, not_false_eq_true, not_true_eq_false]; rfl)), (by first | rfl | (simp only [wk, wt, wl, ↓reduceIte, Nat.reduceEqDiff, Nat.reduceAdd, Nat.zero_add, not_false_eq_true, not_true_eq_false]; done) | (simp only [wk, wt, wl, ↓reduceIte, Nat.reduceEqDiff, Nat.reduceAdd, Nat.zero_add, not_false_eq_true, not_true_eq_false]; rfl)), 0, (by first | rfl | (simp only [wk, wt, wl, ↓reduceIte, Nat.reduceEqDiff, Nat.reduceAdd, Nat.zero_add, not_false_eq_true, not_true_eq_false]; done) | (simp only [wk, wt, wl, ↓reduceIte, Nat.reduceEqDiff, Nat.reduceAdd, Nat.zero_add, not_false_eq_true, not_true_eq_false]; rfl)), by omega, V5, U5, by omega, by simpa using G5⟩ ?_
  rintro tm h' ⟨K, t4, t5, t23, i, t24, hi, V, U, hlt, G⟩
  simp only [wk, wt, wl, ↓reduceIte, Nat.reduceEqDiff, Nat.reduceAdd, Nat.zero_add, not_false_eq_true, not_true_eq_false, t4, t5, t23, t24]
  refine condK_dec (fun hd => ?_) (fun hd => ?_)
  · have hl : (List.replicate i (bl 0) ++ List.replicate (n - i) (⟨[], 0, false⟩ : Cel)).length = n := by simp; omega
    have IX : aindexAddr prog 27 (cvS h3.size n) (.int .i64 (i : Int)) = some (.pointer (some ⟨h3.size, i * 3, none⟩)) := by have := CV.index (kb := h3.size) (n := n) (z := (i : Int)) (by omega) (by omega); rwa [Int.toNat_natCast] at this
    simp only [wk, wt, wl, ↓reduceIte, Nat.reduceEqDiff, Nat.reduceAdd, Nat.zero_add, not_false_eq_true, not_true_eq_false, t4, t5, t23, t24, pt]
    refine adraw_order [(0, false), (1, false), (2, false), (3, true), (4, false), (5, false)] mixed (by kernel_rfl) (by kernel_rfl) (by kernel_rfl) (by with_reducible repeat (first | exact PF_retK | refine PF_thenK ?_ | refine PF_blockK ?_)) ?_
    simp only [wk, wt, wl, ↓reduceIte, Nat.reduceEqDiff, Nat.reduceAdd, Nat.zero_add, not_false_eq_true, not_true_eq_false, dK_t, t5, pt, L2 V]
    refine (blank_ok (a := 0)).use ?_
    rintro _ h6 ⟨tv, rfl, R6, hz6, K6⟩
    have G6 := G.keeps (Ch.wf K) K6
    have V6 := V.keeps (Ch.wf K) K6
    have U6 := U.keeps (Ch.wf K) K6
    obtain ⟨h7, e7, G7, C7, z7⟩ := G6.set (Ch.wf K6) (i := i) (c := bl 0) (by rw [hl]; omega) R6
    have V7 := V6.ch (Ch.wf K6) C7 (by omega)
    have U7 := U6.ch (Ch.wf K6) C7 (by omega)
    have K7 := (K.trans K6).step C7 fun y d => by omega
    rw [replAt (show i < n by omega)] at G7
    have hle6 := Ch.le K6
    simp only [bl] at e7
    refine ⟨fun _ => K6.reads (Ch.wf K), ?_⟩
    simp (disch := omega) only [wk, wt, wl, ↓reduceIte, Nat.reduceEqDiff, Nat.reduceAdd, Nat.zero_add, not_false_eq_true, not_true_eq_false, dK_t, t4, t5, t23, t24, IX, e7, IntWalk.i64_in, intOf_int]
    exact ⟨⟨K7, rfl, rfl, i + 1, by simp, by omega, V7, U7, by omega, G7⟩, by omega⟩
  · obtain rfl : i = n := by omega
    simp only [Nat.sub_self, List.replicate_zero, List.append_nil] at G
    obtain ⟨h8, e8, U8, C8, z8⟩ := U.store (Ch.wf K) (t := 29) (v := .agg #[.int .i64 R, .int .i64 C, cvS h3.size i, .int .i64 0, .int .i64 0]) (i := 0) asz29 (by simp [Value.cells]) (by simp [Value.cells, one, cvS])
    simp only [Value.cells, over_all (xs := [.int .i64 0, .int .i64 0, .slice none 0 0, .int .i64 0, .int .i64 0]) (vs := [.int .i64 R, .int .i64 C, cvS h3.size i, .int .i64 0, .int .i64 0]) rfl] at U8
    have UA := U8.1.loadA (P := prog) (t := 29) underlying29 rfl asz29
    simp only [wk, wt, wl, ↓reduceIte, Nat.reduceEqDiff, Nat.reduceAdd, Nat.zero_add, not_false_eq_true, not_true_eq_false, t4, t5, pt, LA V, e8, UA]
    refine ⟨h3.size, rfl, G.ch (Ch.wf K) C8 (by omega) (fun b e => ?_), by omega, K.step C8 fun y e => by omega⟩
    exact ⟨_, _, _, by rw [show b = h.size from e]; exact U, asz29, by decide⟩
/-- A pane as it lies in a row of panes. -/
structure PaQ where
  p : PaM
  lv : Value
  rv : Value
  sv : Value
  a : Int
  b : Int
  c : Int
  d : Int
  e : Int
def pqC (q : PaQ) : List Value := paC q.p q.lv q.rv q.sv q.a q.b q.c q.d q.e
theorem pqC_len : ∀ q, (pqC q).length = 16 := fun _ => rfl
/-- Panes in a row. -/
def PS (h : Heap) (v : Value) (Ps : List PaM) : Prop := ∃ qs : List PaQ, qs.map PaQ.p = Ps ∧ RS prog h 16 pqC v qs ∧ ∀ q, q ∈ qs → PaV h q.p (pqC q)
theorem PS.keeps {h h' : Heap} {v : Value} {Ps : List PaM} (S : PS h v Ps) (K : Keeps h h') : PS h' v Ps := by
  obtain ⟨qs, h1, h2, h3⟩ := S
  exact ⟨qs, h1, RS.keeps h2 K, fun q hq => (h3 q hq).keeps K⟩
def panesM (R C : Int) (Ps : List PaM) (l : List Cel) : List Cel := Ps.foldl (fun l P => paneM R C P l) l
/-- What is drawn of one pane at most. -/
def drawM (r c : Int) (Ps : List PaM) (msg : List Int) : List Cel :=
  (unitsM (sizeR r) (sizeC c) (sizeR r - 1) (imax 0 0) (imin (sizeC c) (sizeC c)) 0 (panesM (sizeR r) (sizeC c) Ps (blankL r c)) 0 (unitsL msg 8)).1
theorem pane_var {h : Heap} (H : Wf h) {q : PaQ} (o1 : one q.lv = true) (o2 : one q.rv = true) (o3 : one q.sv = true) {z : List Value} (hz : z.length = 16) : ∃ h', storeV prog (h.new 57 z) 57 (.pointer (some ⟨h.size, 0, none⟩)) (.agg (pqC q).toArray) = some (undef, h') ∧ Var h' h.size (pqC q) ∧ Keeps h h' ∧ h'.size = h.size + 1 := by
  have N := Keeps.new H 57 z
  obtain ⟨h', e, V, C, zz⟩ := (Var.new (e := 57) H (cs := z)).store (P := prog) (t := 57) (v := .agg (pqC q).toArray) (i := 0) (Ch.wf N) asz57 (by simp [Value.cells, pqC, paC, hz]) (by simp [Value.cells, pqC, paC, one_int, one_bool, o1, o2, o3])
  refine ⟨h', e, ?_, N.step C fun b e => by omega, zz⟩
  have : over z 0 (Value.agg (pqC q).toArray).cells.toList = pqC q := by
    rw [over_all (by simp [Value.cells, pqC, paC, hz])]; simp [Value.cells]
  rw [this] at V; exact V
end Go.Proofs.YtcgajolmjjeibaaDoor.Am
end
section
/- Grids, the program: contract of Draw (of one pane at most), by a walk. -/
set_option linter.unusedSimpArgs false
set_option linter.unusedVariables false
set_option maxHeartbeats 4000000
set_option maxRecDepth 20000
namespace Go.Proofs.YtcgajolmjjeibaaDoor.Am
open Go Go.RowKit Go.Proofs.Tryd
theorem keepPS {h0 h h' : Heap} {cb kb : Nat} {R C : Int} {l : List Cel} {v : Value} {Ps : List PaM} (S : DS h0 h cb kb R C l) (H : Ch (fun b => b = kb) h h') (X : PS h v Ps) : PS h' v Ps := by
  obtain ⟨qs, h1, h2, h3⟩ := X
  exact ⟨qs, h1, keepK S H h2 (by decide), fun q hq => keepPaV S H (h3 q hq)⟩
theorem panesM_snoc {R C : Int} {l : List Cel} {Ps : List PaM} {i : Nat} {P : PaM} (h : Ps[i]? = some P) : panesM R C (Ps.take (i + 1)) l = paneM R C P (panesM R C (Ps.take i) l) := by
  rw [take_snoc h]; simp [panesM]
theorem build_can {R C : Int} {kb n : Nat} {y x : Int} : abuild prog 96 #[(0, gridV R C kb n y x)] = some (.agg (canC R C kb n y x).toArray) := by
  simp [abuild, wt, aplaces, Instr.fill, Value.cells, gridV, canC, cvS]
theorem box_can {h : Heap} {R C : Int} {kb n : Nat} {y x : Int} : boxV prog h 96 (.agg (canC R C kb n y x).toArray) = some (.pointer (some ⟨h.size, 0, none⟩), h.new 96 (canC R C kb n y x)) := by
  simp [boxV, asz96, Value.cells, canC, cvS, one_int, one]
theorem zero_pane : azero prog 57 = some (.agg (paC ⟨0, 0, 0, 0, 0, [], [], 0, 0, []⟩ (.slice none 0 0) (.slice none 0 0) (.slice none 0 0) 0 0 0 0 0).toArray) := by kernel_rfl
def zPane : List Value := paC ⟨0, 0, 0, 0, 0, [], [], 0, 0, []⟩ (.slice none 0 0) (.slice none 0 0) (.slice none 0 0) 0 0 0 0 0
theorem newPane {h : Heap} : h.new 57 [.int .i64 0, .int .i64 0, .int .i64 0, .int .i64 0, .int .i64 0, .slice none 0 0, .slice none 0 0, .int .i64 0, .int .i64 0, .slice none 0 0, .bool false, .int .i64 0, .int .i64 0, .int .i64 0, .int .i64 0, .int .i64 0] = h.new 57 zPane := rfl
theorem draw_ok {h : Heap} {r c row col : Int} {pv mv : Value} {Ps : List PaM} {msg : List Int} (gl : Gl h) (PSV : PS h pv Ps) (hO : ∀ P, P ∈ Ps → PaOk P) (hone : Ps.length ≤ 1) (M : RdI prog h .i32 mv msg) (hmsg : ∀ j, isR (msg.getD j 0)) (hml : msg.length ≤ 10000) :
    ACalls prog 18 #[.int .i64 r, .int .i64 c, pv, mv, .int .i64 row, .int .i64 col] h (fun v h' => ∃ kb, v = gridV (sizeR r) (sizeC c) kb (drawM r c Ps msg).length (imin (imax row 0) (sizeR r - 1)) (imin (imax col 0) (sizeC c - 1)) ∧ CV h' kb (drawM r c Ps msg) ∧ h.size ≤ kb ∧ Keeps h h' ∧ TxLe 10000000000000 (drawM r c Ps msg) ∧ (drawM r c Ps msg).length = (blankL r c).length) := by
  refine acalls_of_W' func18 rfl (by kernel_rfl) (by kernel_rfl) (by simp [ntmps18]) ?_
  intro H
  have hRC := size_rc r c
  obtain ⟨hm, hnn⟩ := size_mul r c
  have N1 := Keeps.new H 29 [.int .i64 0, .int .i64 0, .slice none 0 0, .int .i64 0, .int .i64 0]
  have V1 := VarE.new (e := 29) H (cs := [.int .i64 0, .int .i64 0, .slice none 0 0, .int .i64 0, .int .i64 0])
  simp only [wk, wt, wl, ↓reduceIte, Nat.reduceEqDiff, Nat.reduceAdd, Nat.zero_add, not_false_eq_true, not_true_eq_false, pt]
  refine (blankG_ok).use ?_
  rintro _ h2 ⟨kb, rfl, G2, hkb, K2⟩
  have K02 := N1.trans K2
  have N3 := Keeps.new (Ch.wf K2) 96 (canC (sizeR r) (sizeC c) kb (blankL r c).length 0 0)
  have hz2 := Ch.le K2
  have hz1 : (h.new 29 [.int .i64 0, .int .i64 0, .slice none 0 0, .int .i64 0, .int .i64 0]).size = h.size + 1 := rfl
  have hkb2 : h.size < kb := by rw [hz1] at hkb; omega
  have S3 : DS h (h2.new 96 (canC (sizeR r) (sizeC c) kb (blankL r c).length 0 0)) h2.size kb (sizeR r) (sizeC c) (blankL r c) :=
    ⟨K02.trans N3, VarE.new (Ch.wf K2), G2.keeps (Ch.wf K2) N3, by have := G2.lt (Ch.wf K2); omega, by omega⟩
  have V3 := (V1.keeps (Ch.wf N1) K2).keeps (Ch.wf K2) N3
  have K03 := K02.trans N3
  have LPS : abuiltin prog .len #[59] #[pv] = some (.int .i64 (Ps.length : Int)) := by
    obtain ⟨qs, q1, q2, _⟩ := PSV
    rw [← q1, List.length_map]; exact q2.len underlying59
  have dL : decide (1 < (Ps.length : Int)) = false := decide_eq_false (by omega)
  obtain ⟨cb, hcb⟩ : ∃ cb, h2.size = cb := ⟨_, rfl⟩
  simp only [wk, wt, wl, ↓reduceIte, Nat.reduceEqDiff, Nat.reduceAdd, Nat.zero_add, not_false_eq_true, not_true_eq_false, build_can, aeff_box, box_can, LPS, dL]
  rw [hcb] at S3
  have hT0 : TxLe 1 (blankL r c) := fun q hq => by
    unfold blankL at hq
    rw [(List.mem_replicate.1 hq).2]; simp [bl]
  have hD : drawM r c Ps msg = (unitsM (sizeR r) (sizeC c) (sizeR r - 1) (imax 0 0) (imin (sizeC c) (sizeC c)) 0 (panesM (sizeR r) (sizeC c) Ps (blankL r c)) 0 (unitsL msg 8)).1 := rfl
  generalize sizeR r = R at *
  generalize sizeC c = C at *
  generalize blankL r c = B at *
  generalize hh3 : h2.new 96 (canC R C kb B.length 0 0) = h3 at *
  have KR3 : Ch (fun b => b = kb) h3 h3 := (Keeps.refl (Ch.wf K03)).mono fun b e => e.elim
  have PS3 := PSV.keeps K03
  have M3 := M.keeps K03
  refine W_loop (fun tm hh => tm 3 = mv ∧ tm 4 = .int .i64 row ∧ tm 5 = .int .i64 col ∧ tm 2 = pv ∧ tm 12 = pt h.size ∧ tm 13 = pt cb ∧ tm 29 = pv ∧ tm 30 = .int .i64 (Ps.length : Int) ∧ ∃ (i : Nat), tm 31 = .int .i64 (i : Int) ∧ i ≤ Ps.length ∧ DS h hh cb kb R C (panesM R C (Ps.take i) B) ∧ (panesM R C (Ps.take i) B).length = B.length ∧ Ch (fun b => b = kb) h3 hh ∧ TxLe (1 + 100640000000 * i) (panesM R C (Ps.take i) B) ∧ VarE hh h.size 29 [.int .i64 0, .int .i64 0, .slice none 0 0, .int .i64 0, .int .i64 0])
    (fun tm _ => (Ps.length - intOf (tm 31)).toNat) ⟨(by first | rfl | (simp only [wk, wt, wl, ↓reduceIte, Nat.reduceEqDiff, Nat.reduceAdd, Nat.zero_add, not_false_eq_true, not_true_eq_false]; done) | (simp only [wk, wt, wl, ↓reduceIte, Nat.reduceEqDiff, Nat.reduceAdd, Nat.zero_add, not_false_eq_true, not_true_eq_false]; rfl) | (simp only [wk, wt, wl, ↓reduceIte, Nat.reduceEqDiff, Nat.reduceAdd, Nat.zero_add, not_false_eq_true, not_true_eq_false, pt]; done) | (simp only [wk, wt, wl, ↓reduceIte, Nat.reduceEqDiff, Nat.reduceAdd, Nat.zero_add, not_false_eq_true, not_true_eq_false, pt]; rfl)), (by first | rfl | (simp only [wk, wt, wl, ↓reduceIte, Nat.reduceEqDiff, Nat.reduceAdd, Nat.zero_add, not_false_eq_true, not_true_eq_false]; done) | (simp only [wk, wt, wl, ↓reduceIte, Nat.reduceEqDiff, Nat.reduceAdd, Nat.zero_add, not_false_eq_true, not_true_eq_false]; rfl) | (simp only [wk, wt, wl, ↓reduceIte, Nat.reduceEqDiff, Nat.reduceAdd, Nat.zero_add, not_false_eq_true, not_true_eq_false, pt]; done) | (simp only [wk, wt, wl, ↓reduceIte, Nat.reduceEqDiff, Nat.reduceAdd, Nat.zero_add, not_false_eq_true, not_true_eq_false, pt]; rfl)), (by first | rfl | (simp only [wk, wt, wl, ↓reduceIte, Nat.reduceEqDiff, Nat.reduceAdd, Nat.zero_add, not_false_eq_true, not_true_eq_false]; done) | (simp only [wk, wt, wl, ↓reduceIte, Nat.reduceEqDiff, Nat.reduceAdd, Nat.zero_add, not_false_eq_true, not_true_eq_false]; rfl) | (simp only [wk, wt, wl, ↓reduceIte, Nat.reduceEqDiff, Nat.reduceAdd, Nat.zero_add, not_false_eq_true, not_true_eq_false, pt]; done) | (simp only [wk, wt, wl, ↓reduceIte, Nat.reduceEqDiff, Nat.reduceAdd, Nat.zero_add, not_false_eq_true, not_true_eq_false, pt]; rfl)), (by first | rfl | (simp only [wk, wt, wl, ↓reduceIte, Nat.reduceEqDiff, Nat.reduceAdd, Nat.zero_add, not_false_eq_true, not_true_eq_false]; done) | (simp only [wk, wt, wl, ↓reduceIte, Nat.reduceEqDiff, Nat.reduceAdd, Nat.zero_add, not_false_eq_true, not_true_eq_false]; rfl) | (simp only [wk, wt, wl, ↓reduceIte, Nat.reduceEqDiff, Nat.reduceAdd, Nat.zero_add, not_false_eq_true, not_true_eq_false, pt]; done) | (simp only [wk, wt, wl, ↓reduceIte, Nat.reduceEqDiff, Nat.reduceAdd, Nat.zero_add, not_false_eq_true, not_true_eq_false, pt]; rfl)), (by first | rfl | (simp only [wk, wt, wl, ↓reduceIte, Nat.reduceEqDiff, Nat.reduceAdd, Nat.zero_add, not_false_eq_true, not_true_eq_false]; done) | (simp only [wk, wt, wl, ↓reduceIte, Nat.reduceEqDiff, Nat.reduceAdd, Nat.zero_add, not_false_eq_true, not_true_eq_false]; rfl) | (simp only [wk, wt, wl, ↓reduceIte, Nat.reduceEqDiff, Nat.reduceAdd, Nat.zero_add, not_false_eq_true, not_true_eq_false, pt]; done) | (simp only [wk, wt, wl, ↓reduceIte, Nat.reduceEqDiff, Nat.reduceAdd, Nat.zero_add, not_false_eq_true, not_true_eq_false, pt]; rfl)), (by first | rfl | (simp only [wk, wt, wl, ↓reduceIte, Nat.reduceEqDiff, Nat.reduceAdd, Nat.zero_add, not_false_eq_true, not_true_eq_false]; done) | (simp only [wk, wt, wl, ↓reduceIte, Nat.reduceEqDiff, Nat.reduceAdd, Nat.zero_add, not_false_eq_true, not_true_eq_false]; rfl) | (simp only [wk, wt, wl, ↓reduceIte, Nat.reduceEqDiff, Nat.reduceAdd, Nat.zero_add, not_false_eq_true, not_true_eq_false, pt, hcb]; done) | (simp only [wk, wt, wl, ↓reduceIte, Nat.reduceEqDiff, Nat.reduceAdd, Nat.zero_add, not_false_eq_true, not_true_eq_false, pt, hcb]; rfl)), (by first | rfl | (simp only [wk, wt, wl, ↓reduceIte, Nat.reduceEqDiff, Nat.reduceAdd, Nat.zero_add, not_false_eq_true, not_true_eq_false]; done) | (simp only [wk, wt, wl, ↓reduceIte, Nat.reduceEqDiff, Nat.reduceAdd, Nat.zero_add, not_false_eq_true, not_true_eq_false]; rfl)), (by first | rfl | (simp only [wk, wt, wl, ↓reduceIte, Nat.reduceEqDiff, Nat.reduceAdd, Nat.zero_add, not_false_eq_true, not_true_eq_false]; done) | (simp only [wk, wt, wl, ↓reduceIte, Nat.reduceEqDiff, Nat.reduceAdd, Nat.zero_add, not_false_eq_true, not_true_eq_false]; rfl)), 0, (by first | rfl | (simp only [wk, wt, wl, ↓reduceIte, Nat.reduceEqDiff, Nat.reduceAdd, Nat.zero_add, not_false_eq_true, not_true_eq_false]; done) | (simp only [wk, wt, wl, ↓reduceIte, Nat.reduceEqDiff, Nat.reduceAdd, Nat.zero_add, not_false_eq_true, not_true_eq_false]; rfl)), by omega, by simpa [panesM] using S3, by simp [panesM], KR3, by simpa [panesM] using hT0, V3⟩ ?_
  rintro tm hh ⟨t3, t4, t5, t2, t12, t13, t29, t30, i, t31, hi2, S4, hl4, C4, T4, V4⟩
  simp only [wk, wt, wl, ↓reduceIte, Nat.reduceEqDiff, Nat.reduceAdd, Nat.zero_add, not_false_eq_true, not_true_eq_false, t29, t30, t31]
  refine condK_dec (fun hd => ?_) (fun hd => ?_)
  · have hi3 : i < Ps.length := by omega
    have PS4 := keepPS S3 C4 PS3
    obtain ⟨qs, hq1, hq2, hq3⟩ := PS4
    have hql : qs.length = Ps.length := by rw [← hq1, List.length_map]
    obtain ⟨q, hq⟩ : ∃ q, qs[i]? = some q := ⟨_, List.getElem?_eq_getElem (by omega)⟩
    have hP : Ps[i]? = some q.p := by rw [← hq1, List.getElem?_map, hq]; rfl
    have hsn := panesM_snoc (R := R) (C := C) (l := B) hP
    have PV := hq3 q (List.mem_of_getElem? hq)
    have IX := Rd.index hq2 underlying59 asz57 (q := .i64) (i := (i : Int)) (by omega) (by omega)
    rw [Int.toNat_natCast] at IX
    have LX := hq2.agg pqC_len (t := 57) underlying57 rfl asz57 hq
    obtain ⟨o1, o2, o3⟩ : one q.lv = true ∧ one q.rv = true ∧ one q.sv = true := by
      obtain ⟨lv, rv, sv, a, b, c, d, e, he, ⟨vs, _, w1, _⟩, w2, w3⟩ := PV
      have := List.cons.inj he
      simp only [pqC, paC, List.cons.injEq] at he
      obtain ⟨_, _, _, _, _, e1, e2, _, _, e3, _⟩ := he
      rw [e1, e2, e3]
      exact ⟨Rd.one w1, Rd.one w2, Rd.one w3⟩
    obtain ⟨h5, e5, V5, K5, z5⟩ := pane_var (Ch.wf C4) o1 o2 o3 (z := zPane) rfl
    have L5 : aload prog h5 57 ⟨hh.size, 0, none⟩ = some (.agg (pqC q).toArray) := V5.loadA (P := prog) (t := 57) underlying57 rfl asz57
    have wi : IntKind.i64.wrap ((i : Int) + 1) = ((i + 1 : Nat) : Int) := by rw [IntWalk.i64_in _ (by omega)]; omega
    have S5 := S4.keeps K5
    have C5 := C4.then K5 fun b e => e.elim
    simp only [wk, wt, wl, ↓reduceIte, Nat.reduceEqDiff, Nat.reduceAdd, Nat.zero_add, not_false_eq_true, not_true_eq_false, t2, t3, t4, t5, t12, t13, t29, t30, t31, pt, newPane, newSz, IX, LX, e5, L5]
    refine (pane_ok gl S5 (PV.keeps K5) (hO _ (List.mem_of_getElem? hP)) (by omega) (by omega) T4).use ?_
    rintro _ h6 ⟨S6, C6, T6⟩
    have hrl := (hO _ (List.mem_of_getElem? hP)).rl
    rw [← hsn] at S6 T6
    have hl6 : (panesM R C (Ps.take (i + 1)) B).length = B.length := by
      have h1 := S6.i.2.2.2.2; have h2 := S4.i.2.2.2.2
      omega
    have V6 := (V4.keeps (Ch.wf C4) K5).ch (Ch.wf C5) C6 (by have := S3.o; omega)
    simp only [wk, wt, wl, ↓reduceIte, Nat.reduceEqDiff, Nat.reduceAdd, Nat.zero_add, not_false_eq_true, not_true_eq_false, t2, t3, t4, t5, t12, t13, t29, t30, t31, pt, wi, intOf_int]
    exact ⟨⟨i + 1, rfl, by omega, S6, hl6, C5.then C6 fun b e => .inr e, fun q hq => by have := T6 q hq; omega, V6⟩, by omega⟩
  obtain rfl : i = Ps.length := by omega
  rw [List.take_length] at S4 hl4 T4
  have LPS4 := LPS
  have wR : IntKind.i64.wrap (R - 1) = R - 1 := IntWalk.i64_in _ (by omega)
  have wC : IntKind.i64.wrap (C - 1) = C - 1 := IntWalk.i64_in _ (by omega)
  obtain ⟨c0, c1, _⟩ := S4.loads
  have M4 : RdI prog hh .i32 mv msg := keepK S3 C4 M3 (by decide)
  simp only [wk, wt, wl, ↓reduceIte, Nat.reduceEqDiff, Nat.reduceAdd, Nat.zero_add, not_false_eq_true, not_true_eq_false, t2, t3, t4, t5, t12, t13, pt, LPS4, dL]
  refine adraw_order [(0, false), (1, false), (2, false), (3, false), (4, false), (5, false), (6, false), (7, false), (8, false), (9, false), (10, false), (11, false), (13, false), (12, false), (14, false)] mixed (by kernel_rfl) (by kernel_rfl) (by kernel_rfl) (by with_reducible repeat (first | exact PF_retK | refine PF_thenK ?_ | refine PF_blockK ?_)) ?_
  simp only [wk, wt, wl, ↓reduceIte, Nat.reduceEqDiff, Nat.reduceAdd, Nat.zero_add, not_false_eq_true, not_true_eq_false, dK_t, t2, t3, t4, t5, t12, t13, pt, c0, c1, wR]
  refine (pen_ok S4).use ?_
  rintro _ h5 ⟨pb, rfl, hpb, N5, K5⟩
  have S5 := S4.keeps K5
  have hx1 : imax 0 0 = 0 := rfl
  have M1 := imin_spec C C
  simp only [wk, wt, wl, ↓reduceIte, Nat.reduceEqDiff, Nat.reduceAdd, Nat.zero_add, not_false_eq_true, not_true_eq_false, dK_t, t3]
  refine (pUnits_ok gl S5 N5 (by have := Ch.le S4.K; omega) (by omega) (by omega) (M4.keeps K5) hmsg hml (by omega) (by omega) (by omega) T4).use ?_
  rintro _ h6 ⟨S6, C6, T6⟩
  rw [← hD] at S6 T6
  have C36 : Ch (fun b => b = kb) h3 h6 := (C4.then K5 fun b e => e.elim).then C6 fun b e => e.elim .inr (fun q => .inl (by have := Ch.le C4; omega))
  have V6 := (V4.keeps (Ch.wf C4) K5).ch (Ch.wf S5.K) C6 (by have := V3.1.lt (Ch.wf K03); have := Ch.le C4; rintro (e | e) <;> omega)
  obtain ⟨d0, d1, _⟩ := S6.loads
  obtain ⟨h7, e7, V7, C7, z7⟩ := S6.V.store1 (Ch.wf S6.K) (t := 3) (v := .int .i64 (imin (imax row 0) (R - 1))) (i := 3) asz3 (by simp [canC]) rfl
  have d1' := V7.1.load1 (P := prog) (t := 3) underlying3 rfl (i := 1)
  simp only [canC, List.set_cons_succ, List.set_cons_zero, List.getElem?_cons_succ, List.getElem?_cons_zero] at d1'
  obtain ⟨h8, e8, V8, C8, z8⟩ := V7.store1 (Ch.wf C7) (t := 3) (v := .int .i64 (imin (imax col 0) (C - 1))) (i := 4) asz3 (by simp [canC]) rfl
  have V8' : VarE h8 cb 96 (canC R C kb (drawM r c Ps msg).length (imin (imax row 0) (R - 1)) (imin (imax col 0) (C - 1))) := V8
  have L8 : aload prog h8 29 ⟨cb, 0, none⟩ = some (gridV R C kb (drawM r c Ps msg).length (imin (imax row 0) (R - 1)) (imin (imax col 0) (C - 1))) := V8'.1.loadA (P := prog) (t := 29) underlying29 rfl asz29
  have hcbh : h.size ≠ cb := by have := S3.o; omega
  have VV8 := (V6.ch (Ch.wf S6.K) C7 hcbh).ch (Ch.wf C7) C8 hcbh
  have C78 : Ch (fun b => b = cb) h6 h8 := C7.then C8 fun b e => .inr e
  have G8 : CV h8 kb (drawM r c Ps msg) := S6.G.ch (Ch.wf S6.K) C78 (fun e => S3.o.2.2 e.symm) fun b e => by
    have e2 : b = cb := e
    subst e2
    exact ⟨_, _, _, S6.V, asz96, by decide⟩
  obtain ⟨h9, e9, V9, C9, z9⟩ := VV8.store (Ch.wf C8) (t := 29) (v := gridV R C kb (drawM r c Ps msg).length (imin (imax row 0) (R - 1)) (imin (imax col 0) (C - 1))) (i := 0) asz29 (by simp [gridV, Value.cells, canC]) (by simp [gridV, Value.cells, canC, one_int, cvS, one])
  have hov : over [.int .i64 0, .int .i64 0, .slice none 0 0, .int .i64 0, .int .i64 0] 0 (gridV R C kb (drawM r c Ps msg).length (imin (imax row 0) (R - 1)) (imin (imax col 0) (C - 1))).cells.toList = canC R C kb (drawM r c Ps msg).length (imin (imax row 0) (R - 1)) (imin (imax col 0) (C - 1)) := by
    rw [over_all (by simp [gridV, Value.cells, canC])]; simp [gridV, Value.cells]
  rw [hov] at V9
  have L9 : aload prog h9 29 ⟨h.size, 0, none⟩ = some (gridV R C kb (drawM r c Ps msg).length (imin (imax row 0) (R - 1)) (imin (imax col 0) (C - 1))) := V9.1.loadA (P := prog) (t := 29) underlying29 rfl asz29
  simp only [wk, wt, wl, ↓reduceIte, Nat.reduceEqDiff, Nat.reduceAdd, Nat.zero_add, not_false_eq_true, not_true_eq_false, dK_t, t2, t3, t4, t5, t12, t13, pt, mxV, mnV, d0, wR, e7, d1', wC, e8, L8, e9, L9]
  refine ⟨kb, rfl, ?_, by omega, ?_, fun q hq => by have := T6 q hq; omega, ?_⟩
  · exact G8.ch (Ch.wf C8) C9 (by have := S3.o; omega) fun b e => by
      have e2 : b = h.size := e
      subst e2
      exact ⟨_, _, _, VV8, asz29, by decide⟩
  · exact ((S6.K.step C78 fun b e => by have : b = cb := e; have := S3.o; omega).step C9 fun b e => by have : b = h.size := e; omega)
  · have h1 := S6.i.2.2.2.2; have h2 := S4.i.2.2.2.2
    omega
end Go.Proofs.YtcgajolmjjeibaaDoor.Am
end
section
/- Grids compared: contracts of slices.Equal, EqualFunc, grid.Same, and of the document's Cell, Same, by walks. -/
set_option linter.unusedSimpArgs false
set_option linter.unusedVariables false
set_option maxHeartbeats 4000000
set_option maxRecDepth 20000
namespace Go.Proofs.YtcgajolmjjeibaaDoor.Am
open Go Go.RowKit Go.Proofs.Tryd
/-- Cells in a row, as they are read. -/
def GR (h : Heap) (cv : Value) (l : List Cel) : Prop := ∃ ps : List PC, ps.map Prod.snd = l ∧ RS prog h 3 cC cv ps ∧ ∀ p, p ∈ ps → RdI prog h .i32 p.1 p.2.tx
theorem GR.keeps {h h' : Heap} {cv : Value} {l : List Cel} (G : GR h cv l) (K : Keeps h h') : GR h' cv l := by
  obtain ⟨ps, h1, h2, h3⟩ := G
  exact ⟨ps, h1, RS.keeps h2 K, fun p hp => (h3 p hp).keeps K⟩
theorem CV.gr {h : Heap} {kb : Nat} {l : List Cel} (H : Wf h) (G : CV h kb l) : GR h (cvS kb l.length) l := by
  obtain ⟨ps, rfl, V, A⟩ := G
  refine ⟨ps, rfl, ?_, A⟩
  have := V.rd H (s := 3) (m := ps.length) (c := ps.length + 1) asz63 (by rw [fm_len cC_len])
  rw [List.length_map]
  exact this
theorem GR.len {h : Heap} {cv : Value} {l : List Cel} (G : GR h cv l) : abuiltin prog .len #[27] #[cv] = some (.int .i64 l.length) := by
  obtain ⟨ps, rfl, R, A⟩ := G
  rw [List.length_map]; exact R.len underlying27
theorem GR.one {h : Heap} {cv : Value} {l : List Cel} (G : GR h cv l) : one cv = true := by
  obtain ⟨ps, rfl, R, A⟩ := G
  exact Rd.one R
/-- A cell, as it is read. -/
theorem GR.at {h : Heap} {cv : Value} {l : List Cel} {i : Nat} {c : Cel} (G : GR h cv l) (hi : l[i]? = some c) : ∃ tv, RdI prog h .i32 tv c.tx ∧ aload prog h 63 (eltA cv 3 i) = some (.agg #[tv, .int .i64 c.ar, .bool c.wd]) ∧ aindexAddr prog 27 cv (.int .i64 (i : Int)) = some (.pointer (some (eltA cv 3 i))) ∧
    aload prog h 23 (eltA cv 3 i) = some tv ∧ aload prog h 3 ⟨(eltA cv 3 i).block, (eltA cv 3 i).off + 1, none⟩ = some (.int .i64 c.ar) ∧ aload prog h 4 ⟨(eltA cv 3 i).block, (eltA cv 3 i).off + 2, none⟩ = some (.bool c.wd) := by
  obtain ⟨ps, rfl, R, A⟩ := G
  rw [List.getElem?_map, Option.map_eq_some_iff] at hi
  obtain ⟨p, hp, rfl⟩ := hi
  have hlt := (List.getElem?_eq_some_iff.1 hp).1
  have I := Rd.index R underlying27 asz63 (q := .i64) (i := (i : Int)) (by omega) (by omega)
  rw [Int.toNat_natCast] at I
  have h0 := R.fld cC_len (t := 23) underlying23 rfl hp (j := 0) (by decide)
  have h1 := R.fld cC_len (t := 3) underlying3 rfl hp (j := 1) (by decide)
  have h2 := R.fld cC_len (t := 4) underlying4 rfl hp (j := 2) (by decide)
  exact ⟨p.1, A p (List.mem_of_getElem? hp), R.agg cC_len underlying63 rfl asz63 hp, I, h0, h1, h2⟩
theorem list_ne {α : Type} [DecidableEq α] {xs ys : List α} {i : Nat} {x y : α} (hx : xs[i]? = some x) (hy : ys[i]? = some y) (h : x ≠ y) : decide (xs = ys) = false := decide_eq_false fun e => by
  subst e; rw [hx] at hy; cases hy; exact h rfl
theorem equalR_ok {h : Heap} {a b : Value} {xs ys : List Int} (X : RdI prog h .i32 a xs) (Y : RdI prog h .i32 b ys) (hx : xs.length ≤ 1000000000000000) : ACalls prog 28 #[a, b] h (fun v h' => v = .bool (decide (xs = ys)) ∧ h' = h) := by
  refine acalls_of_W func28 rfl (by kernel_rfl) (by kernel_rfl) (by simp [ntmps28]) ?_
  have LX := X.ln (n := (xs.length : Int)) rfl
  have LY := Y.ln (n := (ys.length : Int)) rfl
  by_cases c1 : xs.length = ys.length
  case neg =>
    have d1 : decide (¬ (xs.length : Int) = (ys.length : Int)) = true := decide_eq_true (by omega)
    simp only [wk, wt, wl, ↓reduceIte, Nat.reduceEqDiff, Nat.reduceAdd, Nat.zero_add, not_false_eq_true, not_true_eq_false, LX, LY, d1]
    rw [decide_eq_false (fun e => c1 (by rw [e]))]; exact ⟨rfl, trivial⟩
  have d1 : decide (¬ (xs.length : Int) = (ys.length : Int)) = false := decide_eq_false (by omega)
  simp only [wk, wt, wl, ↓reduceIte, Nat.reduceEqDiff, Nat.reduceAdd, Nat.zero_add, not_false_eq_true, not_true_eq_false, LX, LY, d1]
  refine W_loop (fun tm hh => h = hh ∧ tm 0 = a ∧ tm 1 = b ∧ tm 12 = .int .i64 (xs.length : Int) ∧ ∃ i : Nat, tm 13 = .int .i64 (i : Int) ∧ i ≤ xs.length ∧ xs.take i = ys.take i) (fun tm _ => (xs.length - intOf (tm 13)).toNat) ⟨rfl, (by first | rfl | (simp only [wk, wt, wl, ↓reduceIte, Nat.reduceEqDiff, Nat.reduceAdd, Nat.zero_add, not_false_eq_true, not_true_eq_false]; done) | (simp only [wk, wt, wl, ↓reduceIte, Nat.reduceEqDiff, Nat.reduceAdd, Nat.zero_add, not_false_eq_true, not_true_eq_false]; rfl)), (by first | rfl | (simp only [wk, wt, wl, ↓reduceIte, Nat.reduceEqDiff, Nat.reduceAdd, Nat.zero_add, not_false_eq_true, not_true_eq_false]; done) | (simp only [wk, wt, wl, ↓reduceIte, Nat.reduceEqDiff, Nat.reduceAdd, Nat.zero_add, not_false_eq_true, not_true_eq_false]; rfl)), (by first | rfl | (simp only [wk, wt, wl, ↓reduceIte, Nat.reduceEqDiff, Nat.reduceAdd, Nat.zero_add, not_false_eq_true, not_true_eq_false]; done) | (simp only [wk, wt, wl, ↓reduceIte, Nat.reduceEqDiff, Nat.reduceAdd, Nat.zero_add, not_false_eq_true, not_true_eq_false]; rfl)), 0, (by first | rfl | (simp only [wk, wt, wl, ↓reduceIte, Nat.reduceEqDiff, Nat.reduceAdd, Nat.zero_add, not_false_eq_true, not_true_eq_false]; done) | (simp only [wk, wt, wl, ↓reduceIte, Nat.reduceEqDiff, Nat.reduceAdd, Nat.zero_add, not_false_eq_true, not_true_eq_false]; rfl)), by omega, rfl⟩ ?_
  rintro tm _ ⟨rfl, t0, t1, t12, i, t13, hi, he⟩
  simp only [wk, wt, wl, ↓reduceIte, Nat.reduceEqDiff, Nat.reduceAdd, Nat.zero_add, not_false_eq_true, not_true_eq_false, t0, t1, t12, t13]
  refine condK_dec (fun hd => ?_) (fun hd => ?_)
  · obtain ⟨x, hxi⟩ : ∃ x, xs[i]? = some x := ⟨_, List.getElem?_eq_getElem (by omega)⟩
    obtain ⟨y, hyi⟩ : ∃ y, ys[i]? = some y := ⟨_, List.getElem?_eq_getElem (by omega)⟩
    have wi : IntKind.i64.wrap ((i : Int) + 1) = ((i + 1 : Nat) : Int) := by rw [IntWalk.i64_in _ (by omega)]; omega
    by_cases c2 : x = y
    · have d2 : decide (¬ x = y) = false := by simp [c2]
      simp only [wk, wt, wl, ↓reduceIte, Nat.reduceEqDiff, Nat.reduceAdd, Nat.zero_add, not_false_eq_true, not_true_eq_false, t0, t1, t12, t13]
      refine adraw_order [(0, false), (1, false), (2, false), (3, false), (4, false), (5, false), (6, false), (7, false), (8, false)] mixed (by kernel_rfl) (by kernel_rfl) (by kernel_rfl) (by with_reducible repeat (first | exact PF_retK | refine PF_thenK ?_ | refine PF_blockK ?_)) ?_
      simp only [wk, wt, wl, ↓reduceIte, Nat.reduceEqDiff, Nat.reduceAdd, Nat.zero_add, not_false_eq_true, not_true_eq_false, t0, t1, t12, t13, (X.ix hxi).1, (X.ix hxi).2, (Y.ix hyi).1, (Y.ix hyi).2, d2, wi, intOf_int]
      exact ⟨⟨i + 1, rfl, by omega, by rw [take_snoc hxi, take_snoc hyi, he, c2]⟩, by omega⟩
    · have d2 : decide (¬ x = y) = true := by simp [c2]
      simp only [wk, wt, wl, ↓reduceIte, Nat.reduceEqDiff, Nat.reduceAdd, Nat.zero_add, not_false_eq_true, not_true_eq_false, t0, t1, t12, t13]
      refine adraw_order [(0, false), (1, false), (2, false), (3, false), (4, false), (5, false), (6, false), (7, false), (8, false)] mixed (by kernel_rfl) (by kernel_rfl) (by kernel_rfl) (by with_reducible repeat (first | exact PF_retK | refine PF_thenK ?_ | refine PF_blockK ?_)) ?_
      simp only [wk, wt, wl, ↓reduceIte, Nat.reduceEqDiff, Nat.reduceAdd, Nat.zero_add, not_false_eq_true, not_true_eq_false, t0, t1, t12, t13, (X.ix hxi).1, (X.ix hxi).2, (Y.ix hyi).1, (Y.ix hyi).2, d2]
      rw [list_ne hxi hyi c2]; exact ⟨rfl, trivial⟩
  · have hi2 : i = xs.length := by omega
    rw [hi2, List.take_length, c1, List.take_length] at he
    simp only [wk, wt, wl, ↓reduceIte, Nat.reduceEqDiff, Nat.reduceAdd, Nat.zero_add, not_false_eq_true, not_true_eq_false]
    rw [decide_eq_true he]; exact ⟨rfl, trivial⟩
theorem cel_dec (c d : Cel) : decide (c = d) = (decide (c.ar = d.ar) && decide (c.wd = d.wd) && decide (c.tx = d.tx)) := by
  obtain ⟨t1, a1, w1⟩ := c
  obtain ⟨t2, a2, w2⟩ := d
  by_cases h1 : a1 = a2 <;> by_cases h2 : w1 = w2 <;> by_cases h3 : t1 = t2 <;> simp [h1, h2, h3]
theorem eqB {x y : Bool} : abin prog .eql 4 (.bool x) (.bool y) = some (.bool (decide (x = y))) := by
  cases x <;> cases y <;> simp [abin, aeq, underlying4]
theorem cell_load {h : Heap} {b : Nat} {tv : Value} {c : Cel} (V : Var h b [tv, .int .i64 c.ar, .bool c.wd]) : aload prog h 23 ⟨b, 0, none⟩ = some tv ∧ aload prog h 3 ⟨b, 1, none⟩ = some (.int .i64 c.ar) ∧ aload prog h 4 ⟨b, 2, none⟩ = some (.bool c.wd) ∧ aload prog h 63 ⟨b, 0, none⟩ = some (.agg #[tv, .int .i64 c.ar, .bool c.wd]) :=
  ⟨V.load1 (P := prog) (t := 23) underlying23 rfl (i := 0), V.load1 (P := prog) (t := 3) underlying3 rfl (i := 1), V.load1 (P := prog) (t := 4) underlying4 rfl (i := 2), V.loadA (P := prog) (t := 63) underlying63 rfl asz63⟩
theorem cellEq_ok {h : Heap} {a b : Value} {c d : Cel} (X : RdI prog h .i32 a c.tx) (Y : RdI prog h .i32 b d.tx) (hx : c.tx.length ≤ 1000000000000000) : ACalls prog 27 #[.agg #[a, .int .i64 c.ar, .bool c.wd], .agg #[b, .int .i64 d.ar, .bool d.wd]] h (fun v h' => v = .bool (decide (c = d)) ∧ Keeps h h') := by
  refine acalls_of_W' func27 rfl (by kernel_rfl) (by kernel_rfl) (by simp [ntmps27]) ?_
  intro H
  have o1 := Rd.one X
  have o2 := Rd.one Y
  have N1 := Keeps.new H 63 [a, .int .i64 c.ar, .bool c.wd]
  have V1 := Var.new (e := 63) H (cs := [a, .int .i64 c.ar, .bool c.wd])
  have hz1 : (h.new 63 [a, .int .i64 c.ar, .bool c.wd]).size = h.size + 1 := rfl
  have N2 := Keeps.new (Ch.wf N1) 63 [b, .int .i64 d.ar, .bool d.wd]
  have V2 := Var.new (e := 63) (Ch.wf N1) (cs := [b, .int .i64 d.ar, .bool d.wd])
  rw [hz1] at V2
  have V12 := Keeps.var (Ch.wf N1) N2 V1
  have K2 := N1.trans N2
  obtain ⟨p0, p1, p2, _⟩ := cell_load V12
  obtain ⟨q0, q1, q2, _⟩ := cell_load V2
  rw [cel_dec]
  by_cases c1 : c.ar = d.ar
  case neg =>
    have e1 := decide_eq_false c1
    rw [e1]
    simp only [wk, wt, wl, ↓reduceIte, Nat.reduceEqDiff, Nat.reduceAdd, Nat.zero_add, not_false_eq_true, not_true_eq_false, pt, aeff_box, boxV_cell o1, boxV_cell o2, hz1, newSz, p1, q1, e1]
    exact ⟨rfl, K2⟩
  have e1 := decide_eq_true c1
  by_cases c2 : c.wd = d.wd
  case neg =>
    have e2 := decide_eq_false c2
    rw [e1, e2]
    simp only [wk, wt, wl, ↓reduceIte, Nat.reduceEqDiff, Nat.reduceAdd, Nat.zero_add, not_false_eq_true, not_true_eq_false, pt, aeff_box, boxV_cell o1, boxV_cell o2, hz1, newSz, p1, q1, e1, p2, q2, eqB, e2]
    exact ⟨rfl, K2⟩
  have e2 := decide_eq_true c2
  rw [e1, e2]
  simp only [wk, wt, wl, ↓reduceIte, Nat.reduceEqDiff, Nat.reduceAdd, Nat.zero_add, not_false_eq_true, not_true_eq_false, pt, aeff_box, boxV_cell o1, boxV_cell o2, hz1, newSz, p1, q1, e1, p2, q2, eqB, e2, p0, q0]
  refine (equalR_ok (X.keeps K2) (Y.keeps K2) hx).use ?_
  rintro _ _ ⟨rfl, hh⟩
  obtain rfl := hh.symm
  simp only [wk, wt, wl, ↓reduceIte, Nat.reduceEqDiff, Nat.reduceAdd, Nat.zero_add, not_false_eq_true, not_true_eq_false]
  exact ⟨rfl, K2⟩
theorem refCell_ok {h : Heap} {a b : Value} {c d : Cel} (X : RdI prog h .i32 a c.tx) (Y : RdI prog h .i32 b d.tx) (hx : c.tx.length ≤ 1000000000000000) : ACalls prog 29 #[.agg #[a, .int .i64 c.ar, .bool c.wd], .agg #[b, .int .i64 d.ar, .bool d.wd]] h (fun v h' => v = .bool (decide (c = d)) ∧ Keeps h h') := by
  refine acalls_of_W' func29 rfl (by kernel_rfl) (by kernel_rfl) (by simp [ntmps29]) ?_
  intro H
  have o1 := Rd.one X
  have o2 := Rd.one Y
  have N1 := Keeps.new H 63 [a, .int .i64 c.ar, .bool c.wd]
  have V1 := Var.new (e := 63) H (cs := [a, .int .i64 c.ar, .bool c.wd])
  have hz1 : (h.new 63 [a, .int .i64 c.ar, .bool c.wd]).size = h.size + 1 := rfl
  have N2 := Keeps.new (Ch.wf N1) 63 [b, .int .i64 d.ar, .bool d.wd]
  have V2 := Var.new (e := 63) (Ch.wf N1) (cs := [b, .int .i64 d.ar, .bool d.wd])
  rw [hz1] at V2
  have V12 := Keeps.var (Ch.wf N1) N2 V1
  have K2 := N1.trans N2
  obtain ⟨p0, p1, p2, _⟩ := cell_load V12
  obtain ⟨q0, q1, q2, _⟩ := cell_load V2
  rw [cel_dec]
  by_cases c1 : c.ar = d.ar
  case neg =>
    have e1 := decide_eq_false c1
    rw [e1]
    simp only [wk, wt, wl, ↓reduceIte, Nat.reduceEqDiff, Nat.reduceAdd, Nat.zero_add, not_false_eq_true, not_true_eq_false, pt, aeff_box, boxV_cell o1, boxV_cell o2, hz1, newSz, p1, q1, e1]
    exact ⟨rfl, K2⟩
  have e1 := decide_eq_true c1
  by_cases c2 : c.wd = d.wd
  case neg =>
    have e2 := decide_eq_false c2
    rw [e1, e2]
    simp only [wk, wt, wl, ↓reduceIte, Nat.reduceEqDiff, Nat.reduceAdd, Nat.zero_add, not_false_eq_true, not_true_eq_false, pt, aeff_box, boxV_cell o1, boxV_cell o2, hz1, newSz, p1, q1, e1, p2, q2, eqB, e2]
    exact ⟨rfl, K2⟩
  have e2 := decide_eq_true c2
  rw [e1, e2]
  simp only [wk, wt, wl, ↓reduceIte, Nat.reduceEqDiff, Nat.reduceAdd, Nat.zero_add, not_false_eq_true, not_true_eq_false, pt, aeff_box, boxV_cell o1, boxV_cell o2, hz1, newSz, p1, q1, e1, p2, q2, eqB, e2, p0, q0]
  refine (runes_ok (X.keeps K2) (Y.keeps K2) (by omega)).use ?_
  rintro _ _ ⟨rfl, hh⟩
  obtain rfl := hh.symm
  simp only [wk, wt, wl, ↓reduceIte, Nat.reduceEqDiff, Nat.reduceAdd, Nat.zero_add, not_false_eq_true, not_true_eq_false]
  exact ⟨rfl, K2⟩
theorem cell_var {h : Heap} (H : Wf h) {tv : Value} {c : Cel} (o : one tv = true) : ∃ h', storeV prog (h.new 63 [.slice none 0 0, .int .i64 0, .bool false]) 63 (.pointer (some ⟨h.size, 0, none⟩)) (.agg #[tv, .int .i64 c.ar, .bool c.wd]) = some (undef, h') ∧ Var h' h.size [tv, .int .i64 c.ar, .bool c.wd] ∧ Keeps h h' ∧ h'.size = h.size + 1 := by
  have N := Keeps.new H 63 [.slice none 0 0, .int .i64 0, .bool false]
  obtain ⟨h', e, V, C, z⟩ := (Var.new (e := 63) H (cs := [.slice none 0 0, .int .i64 0, .bool false])).store (P := prog) (t := 63) (v := .agg #[tv, .int .i64 c.ar, .bool c.wd]) (i := 0) (Ch.wf N) asz63 (by simp [Value.cells]) (by simp [Value.cells, o, one_int, one_bool])
  refine ⟨h', e, ?_, N.step C fun b e => by omega, z⟩
  have : over [.slice none 0 0, .int .i64 0, .bool false] 0 (Value.agg #[tv, .int .i64 c.ar, .bool c.wd]).cells.toList = [tv, .int .i64 c.ar, .bool c.wd] := by
    rw [over_all (by simp [Value.cells])]; simp [Value.cells]
  rw [this] at V; exact V
def TxB (l : List Cel) : Prop := ∀ c, c ∈ l → c.tx.length ≤ 1000000000000000
theorem equalF_ok {h : Heap} {va vb : Value} {la lb : List Cel} (A : GR h va la) (B : GR h vb lb) (hl : la.length ≤ 1000000000) (hT : TxB la) :
    ACalls prog 26 #[va, vb, .func (.func 27) #[] #[]] h (fun v h' => v = .bool (decide (la = lb)) ∧ Keeps h h') := by
  refine acalls_of_W' func26 rfl (by kernel_rfl) (by kernel_rfl) (by simp [ntmps26]) ?_
  intro H
  have LA := A.len
  have LB := B.len
  by_cases c1 : la.length = lb.length
  case neg =>
    have d1 : decide (¬ (la.length : Int) = (lb.length : Int)) = true := decide_eq_true (by omega)
    simp only [wk, wt, wl, ↓reduceIte, Nat.reduceEqDiff, Nat.reduceAdd, Nat.zero_add, not_false_eq_true, not_true_eq_false, LA, LB, d1]
    rw [decide_eq_false (fun e => c1 (by rw [e]))]; exact ⟨rfl, Keeps.refl H⟩
  have d1 : decide (¬ (la.length : Int) = (lb.length : Int)) = false := decide_eq_false (by omega)
  simp only [wk, wt, wl, ↓reduceIte, Nat.reduceEqDiff, Nat.reduceAdd, Nat.zero_add, not_false_eq_true, not_true_eq_false, LA, LB, d1]
  refine W_loop (fun tm hh => Keeps h hh ∧ tm 1 = vb ∧ tm 2 = .func (.func 27) #[] #[] ∧ tm 15 = va ∧ tm 16 = .int .i64 (la.length : Int) ∧ ∃ i : Nat, tm 17 = .int .i64 (i : Int) ∧ i ≤ la.length ∧ la.take i = lb.take i) (fun tm _ => (la.length - intOf (tm 17)).toNat) ⟨Keeps.refl H, (by first | rfl | (simp only [wk, wt, wl, ↓reduceIte, Nat.reduceEqDiff, Nat.reduceAdd, Nat.zero_add, not_false_eq_true, not_true_eq_false]; done) | (simp only [wk, wt, wl, ↓reduceIte, Nat.reduceEqDiff, Nat.reduceAdd, Nat.zero_add, not_false_eq_true, not_true_eq_false]; rfl)), (by first | rfl | (simp only [wk, wt, wl, ↓reduceIte, Nat.reduceEqDiff, Nat.reduceAdd, Nat.zero_add, not_false_eq_true, not_true_eq_false]; done) | (simp only [wk, wt, wl, ↓reduceIte, Nat.reduceEqDiff, Nat.reduceAdd, Nat.zero_add, not_false_eq_true, not_true_eq_false]; rfl)), (by first | rfl | (simp only [wk, wt, wl, ↓reduceIte, Nat.reduceEqDiff, Nat.reduceAdd, Nat.zero_add, not_false_eq_true, not_true_eq_false]; done) | (simp only [wk, wt, wl, ↓reduceIte, Nat.reduceEqDiff, Nat.reduceAdd, Nat.zero_add, not_false_eq_true, not_true_eq_false]; rfl)), (by first | rfl | (simp only [wk, wt, wl, ↓reduceIte, Nat.reduceEqDiff, Nat.reduceAdd, Nat.zero_add, not_false_eq_true, not_true_eq_false]; done) | (simp only [wk, wt, wl, ↓reduceIte, Nat.reduceEqDiff, Nat.reduceAdd, Nat.zero_add, not_false_eq_true, not_true_eq_false]; rfl)), 0, (by first | rfl | (simp only [wk, wt, wl, ↓reduceIte, Nat.reduceEqDiff, Nat.reduceAdd, Nat.zero_add, not_false_eq_true, not_true_eq_false]; done) | (simp only [wk, wt, wl, ↓reduceIte, Nat.reduceEqDiff, Nat.reduceAdd, Nat.zero_add, not_false_eq_true, not_true_eq_false]; rfl)), by omega, rfl⟩ ?_
  rintro tm hh ⟨K, t1, t2, t15, t16, i, t17, hi, he⟩
  simp only [wk, wt, wl, ↓reduceIte, Nat.reduceEqDiff, Nat.reduceAdd, Nat.zero_add, not_false_eq_true, not_true_eq_false, t1, t2, t15, t16, t17]
  refine condK_dec (fun hd => ?_) (fun hd => ?_)
  · obtain ⟨x, hxi⟩ : ∃ x, la[i]? = some x := ⟨_, List.getElem?_eq_getElem (by omega)⟩
    obtain ⟨y, hyi⟩ : ∃ y, lb[i]? = some y := ⟨_, List.getElem?_eq_getElem (by omega)⟩
    have wi : IntKind.i64.wrap ((i : Int) + 1) = ((i + 1 : Nat) : Int) := by rw [IntWalk.i64_in _ (by omega)]; omega
    obtain ⟨tx, X, LX, IX, _⟩ := (A.keeps K).at hxi
    obtain ⟨ty, Y, _⟩ := (B.keeps K).at hyi
    obtain ⟨h3, e3, V3, K3, z3⟩ := cell_var (Ch.wf K) (c := x) (Rd.one X)
    obtain ⟨ty, Y, LY, IY, _⟩ := ((B.keeps K).keeps K3).at hyi
    obtain ⟨h4, e4, V4, K4, z4⟩ := cell_var (Ch.wf K3) (c := y) (Rd.one Y)
    have V34 := Keeps.var (Ch.wf K3) K4 V3
    obtain ⟨_, _, _, p⟩ := cell_load V34
    obtain ⟨_, _, _, q⟩ := cell_load V4
    rw [z3] at e4 q
    have K04 := (K.trans K3).trans K4
    simp only [wk, wt, wl, ↓reduceIte, Nat.reduceEqDiff, Nat.reduceAdd, Nat.zero_add, not_false_eq_true, not_true_eq_false, t1, t2, t15, t16, t17, newSz, z3, IX, LX, e3, IY, LY, e4, p, q, callV_func, body27]
    refine (cellEq_ok ((X.keeps K3).keeps K4) (Y.keeps K4) (hT x (List.mem_of_getElem? hxi))).use ?_
    rintro _ h5 ⟨rfl, K5⟩
    by_cases c2 : x = y
    · have d2 := decide_eq_true c2
      simp only [wk, wt, wl, ↓reduceIte, Nat.reduceEqDiff, Nat.reduceAdd, Nat.zero_add, not_false_eq_true, not_true_eq_false, t1, t2, t15, t16, t17, d2, wi, intOf_int]
      exact ⟨⟨K04.trans K5, i + 1, rfl, by omega, by rw [take_snoc hxi, take_snoc hyi, he, c2]⟩, by omega⟩
    · have d2 := decide_eq_false c2
      simp only [wk, wt, wl, ↓reduceIte, Nat.reduceEqDiff, Nat.reduceAdd, Nat.zero_add, not_false_eq_true, not_true_eq_false, t1, t2, t15, t16, t17, d2]
      rw [list_ne hxi hyi c2]; exact ⟨rfl, K04.trans K5⟩
  · have hi2 : i = la.length := by omega
    rw [hi2, List.take_length, c1, List.take_length] at he
    simp only [wk, wt, wl, ↓reduceIte, Nat.reduceEqDiff, Nat.reduceAdd, Nat.zero_add, not_false_eq_true, not_true_eq_false]
    rw [decide_eq_true he]; exact ⟨rfl, K⟩
end Go.Proofs.YtcgajolmjjeibaaDoor.Am
end
section
/- Grids compared: contracts of grid.Same and of the document's Same, by walks. -/
set_option linter.unusedSimpArgs false
set_option linter.unusedVariables false
set_option maxHeartbeats 4000000
set_option maxRecDepth 20000
namespace Go.Proofs.YtcgajolmjjeibaaDoor.Am
open Go Go.RowKit Go.Proofs.Tryd
/-- A grid in plain terms. -/
structure GM where
  R : Int
  C : Int
  l : List Cel
  y : Int
  x : Int
deriving DecidableEq
def gC (g : GM) (cv : Value) : List Value := [.int .i64 g.R, .int .i64 g.C, cv, .int .i64 g.y, .int .i64 g.x]
def gV (g : GM) (cv : Value) : Value := .agg (gC g cv).toArray
theorem boxV_grid {h : Heap} {g : GM} {v : Value} (o : one v = true) : boxV prog h 29 (gV g v) = some (.pointer (some ⟨h.size, 0, none⟩), h.new 29 (gC g v)) := by
  simp [boxV, asz29, Value.cells, gV, gC, one_cells o, o, one_int]
theorem grid_load {h : Heap} {b : Nat} {g : GM} {v : Value} (V : Var h b (gC g v)) : aload prog h 3 ⟨b, 0, none⟩ = some (.int .i64 g.R) ∧ aload prog h 3 ⟨b, 1, none⟩ = some (.int .i64 g.C) ∧ aload prog h 27 ⟨b, 2, none⟩ = some v ∧ aload prog h 3 ⟨b, 3, none⟩ = some (.int .i64 g.y) ∧ aload prog h 3 ⟨b, 4, none⟩ = some (.int .i64 g.x) ∧ aload prog h 29 ⟨b, 0, none⟩ = some (gV g v) :=
  ⟨V.load1 (i := 0) underlying3 rfl, V.load1 (i := 1) underlying3 rfl, V.load1 (i := 2) underlying27 rfl, V.load1 (i := 3) underlying3 rfl, V.load1 (i := 4) underlying3 rfl, V.loadA underlying29 rfl asz29⟩
theorem gm_dec (a b : GM) : decide (a = b) = (decide (a.R = b.R) && decide (a.C = b.C) && decide (a.y = b.y) && decide (a.x = b.x) && decide (a.l = b.l)) := by
  obtain ⟨r1, c1, l1, y1, x1⟩ := a
  obtain ⟨r2, c2, l2, y2, x2⟩ := b
  by_cases h1 : r1 = r2 <;> by_cases h2 : c1 = c2 <;> by_cases h3 : y1 = y2 <;> by_cases h4 : x1 = x2 <;> by_cases h5 : l1 = l2 <;> simp [h1, h2, h3, h4, h5]
theorem sameG_ok {h : Heap} {va vb : Value} {a b : GM} (A : GR h va a.l) (B : GR h vb b.l) (hl : a.l.length ≤ 1000000000) (hT : TxB a.l) :
    ACalls prog 8 #[gV a va, gV b vb] h (fun v h' => v = .bool (decide (a = b)) ∧ Keeps h h') := by
  refine acalls_of_W' func8 rfl (by kernel_rfl) (by kernel_rfl) (by simp [ntmps8]) ?_
  intro H
  have o1 := A.one
  have o2 := B.one
  have N1 := Keeps.new H 29 (gC a va)
  have V1 := Var.new (e := 29) H (cs := gC a va)
  have hz1 : (h.new 29 (gC a va)).size = h.size + 1 := rfl
  have N2 := Keeps.new (Ch.wf N1) 29 (gC b vb)
  have V2 := Var.new (e := 29) (Ch.wf N1) (cs := gC b vb)
  rw [hz1] at V2
  have V12 := Keeps.var (Ch.wf N1) N2 V1
  have K2 := N1.trans N2
  obtain ⟨p0, p1, p2, p3, p4, _⟩ := grid_load V12
  obtain ⟨q0, q1, q2, q3, q4, _⟩ := grid_load V2
  rw [gm_dec]
  by_cases c1 : a.R = b.R
  case neg =>
    have e1 := decide_eq_false c1
    rw [e1]
    simp only [wk, wt, wl, ↓reduceIte, Nat.reduceEqDiff, Nat.reduceAdd, Nat.zero_add, not_false_eq_true, not_true_eq_false, pt, aeff_box, boxV_grid o1, boxV_grid o2, hz1, newSz, p0, q0, e1]
    exact ⟨rfl, K2⟩
  have e1 := decide_eq_true c1
  by_cases c2 : a.C = b.C
  case neg =>
    have e2 := decide_eq_false c2
    rw [e1, e2]
    simp only [wk, wt, wl, ↓reduceIte, Nat.reduceEqDiff, Nat.reduceAdd, Nat.zero_add, not_false_eq_true, not_true_eq_false, pt, aeff_box, boxV_grid o1, boxV_grid o2, hz1, newSz, p0, q0, e1, p1, q1, e2]
    exact ⟨rfl, K2⟩
  have e2 := decide_eq_true c2
  by_cases c3 : a.y = b.y
  case neg =>
    have e3 := decide_eq_false c3
    rw [e1, e2, e3]
    simp only [wk, wt, wl, ↓reduceIte, Nat.reduceEqDiff, Nat.reduceAdd, Nat.zero_add, not_false_eq_true, not_true_eq_false, pt, aeff_box, boxV_grid o1, boxV_grid o2, hz1, newSz, p0, q0, e1, p1, q1, e2, p3, q3, e3]
    exact ⟨rfl, K2⟩
  have e3 := decide_eq_true c3
  by_cases c4 : a.x = b.x
  case neg =>
    have e4 := decide_eq_false c4
    rw [e1, e2, e3, e4]
    simp only [wk, wt, wl, ↓reduceIte, Nat.reduceEqDiff, Nat.reduceAdd, Nat.zero_add, not_false_eq_true, not_true_eq_false, pt, aeff_box, boxV_grid o1, boxV_grid o2, hz1, newSz, p0, q0, e1, p1, q1, e2, p3, q3, e3, p4, q4, e4]
    exact ⟨rfl, K2⟩
  have e4 := decide_eq_true c4
  rw [e1, e2, e3, e4]
  simp only [wk, wt, wl, ↓reduceIte, Nat.reduceEqDiff, Nat.reduceAdd, Nat.zero_add, not_false_eq_true, not_true_eq_false, pt, aeff_box, boxV_grid o1, boxV_grid o2, hz1, newSz, p0, q0, e1, p1, q1, e2, p3, q3, e3, p4, q4, e4, p2, q2]
  refine (equalF_ok (A.keeps K2) (B.keeps K2) hl hT).use ?_
  rintro _ h3 ⟨rfl, K3⟩
  simp only [wk, wt, wl, ↓reduceIte, Nat.reduceEqDiff, Nat.reduceAdd, Nat.zero_add, not_false_eq_true, not_true_eq_false]
  exact ⟨rfl, K2.trans K3⟩
theorem refSame_ok {h : Heap} {va vb : Value} {a b : GM} (A : GR h va a.l) (B : GR h vb b.l) (hl : a.l.length ≤ 1000000000) (hT : TxB a.l) :
    ACalls prog 9 #[gV a va, gV b vb] h (fun v h' => v = .bool (decide (a = b)) ∧ Keeps h h') := by
  refine acalls_of_W' func9 rfl (by kernel_rfl) (by kernel_rfl) (by simp [ntmps9]) ?_
  intro H
  have o1 := A.one
  have o2 := B.one
  have N1 := Keeps.new H 29 (gC a va)
  have V1 := Var.new (e := 29) H (cs := gC a va)
  have hz1 : (h.new 29 (gC a va)).size = h.size + 1 := rfl
  have N2 := Keeps.new (Ch.wf N1) 29 (gC b vb)
  have V2 := Var.new (e := 29) (Ch.wf N1) (cs := gC b vb)
  rw [hz1] at V2
  have V12 := Keeps.var (Ch.wf N1) N2 V1
  have K2 := N1.trans N2
  obtain ⟨p0, p1, p2, p3, p4, _⟩ := grid_load V12
  obtain ⟨q0, q1, q2, q3, q4, _⟩ := grid_load V2
  rw [gm_dec]
  have nd : ∀ {x y : Int}, x = y → decide (¬ x = y) = false := fun e => by simp [e]
  have ny : ∀ {x y : Int}, ¬ x = y → decide (¬ x = y) = true := fun e => by simp [e]
  by_cases c1 : a.R = b.R
  case neg =>
    rw [decide_eq_false c1]
    simp only [wk, wt, wl, ↓reduceIte, Nat.reduceEqDiff, Nat.reduceAdd, Nat.zero_add, not_false_eq_true, not_true_eq_false, pt, aeff_box, boxV_grid o1, boxV_grid o2, hz1, newSz, p0, q0, ny c1]
    exact ⟨rfl, K2⟩
  by_cases c2 : a.C = b.C
  case neg =>
    rw [decide_eq_false c2, decide_eq_true c1]
    simp only [wk, wt, wl, ↓reduceIte, Nat.reduceEqDiff, Nat.reduceAdd, Nat.zero_add, not_false_eq_true, not_true_eq_false, pt, aeff_box, boxV_grid o1, boxV_grid o2, hz1, newSz, p0, q0, nd c1, p1, q1, ny c2]
    exact ⟨rfl, K2⟩
  by_cases c3 : a.y = b.y
  case neg =>
    rw [decide_eq_false c3, decide_eq_true c1, decide_eq_true c2]
    simp only [wk, wt, wl, ↓reduceIte, Nat.reduceEqDiff, Nat.reduceAdd, Nat.zero_add, not_false_eq_true, not_true_eq_false, pt, aeff_box, boxV_grid o1, boxV_grid o2, hz1, newSz, p0, q0, nd c1, p1, q1, nd c2, p3, q3, ny c3]
    exact ⟨rfl, K2⟩
  by_cases c4 : a.x = b.x
  case neg =>
    rw [decide_eq_false c4, decide_eq_true c1, decide_eq_true c2, decide_eq_true c3]
    simp only [wk, wt, wl, ↓reduceIte, Nat.reduceEqDiff, Nat.reduceAdd, Nat.zero_add, not_false_eq_true, not_true_eq_false, pt, aeff_box, boxV_grid o1, boxV_grid o2, hz1, newSz, p0, q0, nd c1, p1, q1, nd c2, p3, q3, nd c3, p4, q4, ny c4]
    exact ⟨rfl, K2⟩
  rw [decide_eq_true c1, decide_eq_true c2, decide_eq_true c3, decide_eq_true c4]
  have LA := (A.keeps K2).len
  have LB := (B.keeps K2).len
  by_cases c5 : a.l.length = b.l.length
  case neg =>
    have d1 : decide (¬ (a.l.length : Int) = (b.l.length : Int)) = true := decide_eq_true (by omega)
    rw [decide_eq_false (fun e : a.l = b.l => c5 (by rw [e]))]
    simp only [wk, wt, wl, ↓reduceIte, Nat.reduceEqDiff, Nat.reduceAdd, Nat.zero_add, not_false_eq_true, not_true_eq_false, pt, aeff_box, boxV_grid o1, boxV_grid o2, hz1, newSz, p0, q0, nd c1, p1, q1, nd c2, p3, q3, nd c3, p4, q4, nd c4, p2, q2, LA, LB, d1]
    exact ⟨rfl, K2⟩
  have d1 : decide (¬ (a.l.length : Int) = (b.l.length : Int)) = false := decide_eq_false (by omega)
  simp only [wk, wt, wl, ↓reduceIte, Nat.reduceEqDiff, Nat.reduceAdd, Nat.zero_add, not_false_eq_true, not_true_eq_false, pt, aeff_box, boxV_grid o1, boxV_grid o2, hz1, newSz, p0, q0, nd c1, p1, q1, nd c2, p3, q3, nd c3, p4, q4, nd c4, p2, q2, LA, LB, d1]
  refine W_loop (fun tm hh => Keeps h hh ∧ tm 2 = pt h.size ∧ tm 3 = pt (h.size + 1) ∧ Var hh h.size (gC a va) ∧ Var hh (h.size + 1) (gC b vb) ∧ ∃ i : Nat, tm 5 = .int .i64 (i : Int) ∧ i ≤ a.l.length ∧ a.l.take i = b.l.take i) (fun tm _ => (a.l.length - intOf (tm 5)).toNat) ⟨K2, (by first | rfl | (simp only [wk, wt, wl, ↓reduceIte, Nat.reduceEqDiff, Nat.reduceAdd, Nat.zero_add, not_false_eq_true, not_true_eq_false]; done) | (simp only [wk, wt, wl, ↓reduceIte, Nat.reduceEqDiff, Nat.reduceAdd, Nat.zero_add, not_false_eq_true, not_true_eq_false]; rfl) | (simp only [wk, wt, wl, ↓reduceIte, Nat.reduceEqDiff, Nat.reduceAdd, Nat.zero_add, not_false_eq_true, not_true_eq_false, pt]; done) | (simp only [wk, wt, wl, ↓reduceIte, Nat.reduceEqDiff, Nat.reduceAdd, Nat.zero_add, not_false_eq_true, not_true_eq_false, pt]; rfl)), (by first | rfl | (simp only [wk, wt, wl, ↓reduceIte, Nat.reduceEqDiff, Nat.reduceAdd, Nat.zero_add, not_false_eq_true, not_true_eq_false]; done) | (simp only [wk, wt, wl, ↓reduceIte, Nat.reduceEqDiff, Nat.reduceAdd, Nat.zero_add, not_false_eq_true, not_true_eq_false]; rfl) | (simp only [wk, wt, wl, ↓reduceIte, Nat.reduceEqDiff, Nat.reduceAdd, Nat.zero_add, not_false_eq_true, not_true_eq_false, pt]; done) | (simp only [wk, wt, wl, ↓reduceIte, Nat.reduceEqDiff, Nat.reduceAdd, Nat.zero_add, not_false_eq_true, not_true_eq_false, pt]; rfl)), V12, V2, 0, (by first | rfl | (simp only [wk, wt, wl, ↓reduceIte, Nat.reduceEqDiff, Nat.reduceAdd, Nat.zero_add, not_false_eq_true, not_true_eq_false]; done) | (simp only [wk, wt, wl, ↓reduceIte, Nat.reduceEqDiff, Nat.reduceAdd, Nat.zero_add, not_false_eq_true, not_true_eq_false]; rfl)), by omega, rfl⟩ ?_
  rintro tm hh ⟨K, t2, t3, W1, W2, i, t5, hi, he⟩
  obtain ⟨_, _, r2, _⟩ := grid_load W1
  obtain ⟨_, _, s2, _⟩ := grid_load W2
  simp only [wk, wt, wl, ↓reduceIte, Nat.reduceEqDiff, Nat.reduceAdd, Nat.zero_add, not_false_eq_true, not_true_eq_false, t2, t3, t5, pt, r2, (A.keeps K).len]
  refine condK_dec (fun hd => ?_) (fun hd => ?_)
  · obtain ⟨x, hxi⟩ : ∃ x, a.l[i]? = some x := ⟨_, List.getElem?_eq_getElem (by omega)⟩
    obtain ⟨y, hyi⟩ : ∃ y, b.l[i]? = some y := ⟨_, List.getElem?_eq_getElem (by omega)⟩
    have wi : IntKind.i64.wrap ((i : Int) + 1) = ((i + 1 : Nat) : Int) := by rw [IntWalk.i64_in _ (by omega)]; omega
    obtain ⟨tx, X, LX, IX, _⟩ := (A.keeps K).at hxi
    obtain ⟨ty, Y, LY, IY, _⟩ := (B.keeps K).at hyi
    simp only [wk, wt, wl, ↓reduceIte, Nat.reduceEqDiff, Nat.reduceAdd, Nat.zero_add, not_false_eq_true, not_true_eq_false, t2, t3, t5, pt]
    refine adraw_order [(0, false), (1, false), (2, false), (3, false), (4, false), (5, false), (6, false), (7, false), (8, false), (9, false), (10, true), (11, false)] mixed (by kernel_rfl) (by kernel_rfl) (by kernel_rfl) (by with_reducible repeat (first | exact PF_retK | refine PF_thenK ?_ | refine PF_blockK ?_)) ?_
    simp only [wk, wt, wl, ↓reduceIte, Nat.reduceEqDiff, Nat.reduceAdd, Nat.zero_add, not_false_eq_true, not_true_eq_false, dK_t, t2, t3, t5, pt, r2, s2, IX, LX, IY, LY]
    refine (refCell_ok X Y (hT x (List.mem_of_getElem? hxi))).use ?_
    rintro _ h5 ⟨rfl, K5⟩
    by_cases c6 : x = y
    · have d2 := decide_eq_true c6
      simp only [wk, wt, wl, ↓reduceIte, Nat.reduceEqDiff, Nat.reduceAdd, Nat.zero_add, not_false_eq_true, not_true_eq_false, dK_t, t2, t3, t5, pt, d2, wi, intOf_int]
      refine ⟨K5.reads (Ch.wf K), ?_⟩
      exact ⟨⟨K.trans K5, Keeps.var (Ch.wf K) K5 W1, Keeps.var (Ch.wf K) K5 W2, i + 1, rfl, by omega, by rw [take_snoc hxi, take_snoc hyi, he, c6]⟩, by omega⟩
    · have d2 := decide_eq_false c6
      simp only [wk, wt, wl, ↓reduceIte, Nat.reduceEqDiff, Nat.reduceAdd, Nat.zero_add, not_false_eq_true, not_true_eq_false, dK_t, t2, t3, t5, pt, d2]
      refine ⟨K5.reads (Ch.wf K), ?_⟩
      rw [list_ne hxi hyi c6]; exact ⟨rfl, K.trans K5⟩
  · have hi2 : i = a.l.length := by omega
    rw [hi2, List.take_length, c5, List.take_length] at he
    simp only [wk, wt, wl, ↓reduceIte, Nat.reduceEqDiff, Nat.reduceAdd, Nat.zero_add, not_false_eq_true, not_true_eq_false]
    rw [decide_eq_true he]; exact ⟨rfl, K⟩
end Go.Proofs.YtcgajolmjjeibaaDoor.Am
end
section
/- Grids of the document: rows of cells that grew, told apart by what their family holds; a grid that is drawn. -/
set_option linter.unusedSimpArgs false
set_option linter.unusedVariables false
set_option maxHeartbeats 4000000
set_option maxRecDepth 20000
namespace Go.Proofs.YtcgajolmjjeibaaDoor.Am
open Go Go.RowKit Go.Proofs.Tryd
/-- The blocks of one family. -/
abbrev FR (f : Nat) (h : Heap) : Nat → Prop := Rg (fun x => x = f) h
/-- A family that holds things of one size only. -/
def SzF (h : Heap) (f s : Nat) : Prop := f < h.size ∧ ∀ x k', h.get x = some k' → k'.fam = f → asz prog k'.elem = some s
/-- A block one may write, of such a family. -/
def VarF (h : Heap) (b f s : Nat) (cs : List Value) : Prop := SzF h f s ∧ ∃ k, h.get b = some k ∧ k.cells = cs ∧ k.live = true ∧ k.ro = false ∧ k.fam = f
section
variable {h h' : Heap} {b f s : Nat} {cs : List Value} {D : Nat → Prop}
theorem SzF.ch (S : SzF h f s) (C : Ch D h h') (hd : ∀ x, D x → ¬ FR f h x) : SzF h' f s := by
  refine ⟨Nat.lt_of_lt_of_le S.1 (Ch.le C), fun x k' g e => ?_⟩
  rcases Nat.lt_or_ge x h.size with hx | hx
  · obtain ⟨k, g1, e1⟩ := C.2.2.2.2.1 x k' hx g
    have hnd : ¬ D x := fun d => hd x d ⟨k, g1, by rw [← e1]; exact e⟩
    rw [Ch.at C hx hnd, g1] at g
    cases g
    exact S.2 x _ g1 e
  · rcases C.2.2.2.1 x k' hx g with h1 | ⟨y, k0, d, g0, e0⟩
    · have := S.1; omega
    · exact absurd ⟨k0, g0, by rw [← e0]; exact e⟩ (hd y d)
theorem VarF.rg (V : VarF h b f s cs) : FR f h b := by
  obtain ⟨_, k, g1, _, _, _, e⟩ := V
  exact ⟨k, g1, e⟩
theorem VarF.lt (H : Wf h) (V : VarF h b f s cs) : b < h.size ∧ f ≤ b := by
  obtain ⟨_, k, g1, _, _, _, e⟩ := V
  have := H.2 b k g1
  exact ⟨H.lt g1, by omega⟩
theorem VarF.ch (H : Wf h) (V : VarF h b f s cs) (C : Ch D h h') (hd : ∀ x, D x → ¬ FR f h x) : VarF h' b f s cs := by
  have hb := V.rg
  have hl := (V.lt H).1
  obtain ⟨S, k, g, r⟩ := V
  exact ⟨S.ch C hd, k, (Ch.at C hl fun d => hd b d hb).trans g, r⟩
theorem VarF.keeps (H : Wf h) (V : VarF h b f s cs) (K : Keeps h h') : VarF h' b f s cs := V.ch H K fun x e => e.elim
theorem VarF.sz (V : VarF h b f s cs) {k : Blk} (g : h.get b = some k) : asz prog k.elem = some s := by
  obtain ⟨S, k0, g0, _, _, _, e⟩ := V
  rw [g0] at g; cases g
  exact S.2 b _ g0 e
theorem VarF.load1 (V : VarF h b f s cs) {t : TypeId} {d : TypeDesc} (ht : prog.underlying t = some d) (hd : isAggD d = false) {i : Nat} : aload prog h t ⟨b, i, none⟩ = cs[i]? := by
  obtain ⟨_, k, g1, rfl, g3, _⟩ := V
  simp [aload, g1, g3, ht, hd]
theorem VarF.store (H : Wf h) (V : VarF h b f s cs) {t : TypeId} {v : Value} {i : Nat} (ht : asz prog t = some v.cells.size) (hi : i + v.cells.size ≤ cs.length) (h1 : v.cells.all one = true) :
    ∃ h', storeV prog h t (.pointer (some ⟨b, i, none⟩)) v = some (undef, h') ∧ VarF h' b f s (over cs i v.cells.toList) ∧ Ch (FR f h) h h' ∧ h'.size = h.size := by
  obtain ⟨S, k, g1, rfl, g3, g4, g5⟩ := V
  refine ⟨h.store b k i v.cells.toList, ?_, ⟨⟨S.1, fun x k' g e => ?_⟩, _, Heap.put_self, rfl, g3, g4, g5⟩, (store_ch H g1).mono ?_, rfl⟩
  · simp [storeV, astore, g1, g3, g4, ht, hi, h1]
  · by_cases hx : x = b
    · subst hx
      have g' : (h.store x k i v.cells.toList).get x = some { k with cells := over k.cells i v.cells.toList } := Heap.put_self
      rw [g'] at g; cases g
      exact S.2 x k g1 e
    · have hne : (h.store b k i v.cells.toList).get x = (h.get x).map (Blk.killed k.fam) := by
        simp only [Heap.store]; rw [Heap.put_ne hx, kill_get]
      rw [hne, Option.map_eq_some_iff] at g
      obtain ⟨k0, e1, rfl⟩ := g
      rw [killed_fam] at e
      have := S.2 x k0 e1 e
      simp only [Blk.killed]
      split <;> exact this
  · rintro x ⟨k1, k2, e1, e2, e3⟩
    rw [g1] at e2; cases e2
    exact ⟨k1, e1, e3.trans g5⟩
/-- What lies elsewhere than a family's. -/
theorem Rd.offF {s' n : Nat} {v : Value} {xs : List Value} (R : Rd prog h s' v n xs) (S : SzF h f s) (hne : s ≠ s') : ∀ y, blkOf v = some y → ¬ FR f h y := fun y hy ⟨k0, g0, e0⟩ => by
  obtain ⟨_, ⟨_, rfl | rfl⟩ | ⟨b', o, c, k, rfl, _, hk, _, ha, _⟩⟩ := R
  · cases hy
  · cases hy
  · cases hy
    rw [hk] at g0; cases g0
    have := S.2 _ _ hk e0
    rw [ha] at this; cases this
    exact hne rfl
theorem Rd.chF {s' n : Nat} {v : Value} {xs : List Value} (R : Rd prog h s' v n xs) (S : SzF h f s) (C : Ch (FR f h) h h') (hne : s ≠ s') : Rd prog h' s' v n xs := Ch.rd C R (Rd.offF R S hne)
theorem Var.offF {b' : Nat} {cs' : List Value} (V : Var h b' cs') (hne : b' ≠ f) : ¬ FR f h b' := Var.apart V (Gs := fun x => x = f) hne
theorem Var.chF {b' : Nat} {cs' : List Value} (H : Wf h) (V : Var h b' cs') (C : Ch (FR f h) h h') (hne : b' ≠ f) : Var h' b' cs' := Ch.var H C V (V.offF hne)
theorem VarE.ne {b' m : Nat} {e : TypeId} {cs' : List Value} (V : VarE h b' e cs') (S : SzF h f s) (he : asz prog e = some m) (hm : m ≠ s) : b' ≠ f := by
  rintro rfl
  obtain ⟨k, g, e1⟩ := V.1.fam
  obtain ⟨k0, g0, e0⟩ := V.2
  rw [g] at g0; cases g0
  have := S.2 _ _ g e1
  rw [e0, he] at this; cases this
  exact hm rfl
theorem SzF.thenF {h0 : Heap} (C1 : Ch (FR f h0) h0 h) (C2 : Ch (FR f h) h h') : Ch (FR f h0) h0 h' := C1.thenR C2
/-- A row that grew is a block one may write. -/
theorem Own.varF {B n : Nat} {a : Nat} (O : Own prog B h s (.slice (some ⟨a, 0, none⟩) n 0) n cs) (hS : ∀ k, h.get a = some k → SzF h k.fam s ∧ B ≤ k.fam) : ∃ f, VarF h a f s cs ∧ B ≤ f := by
  obtain ⟨b, o, k, e, hB, hk, hr, ht, hl, ha, hol, hlt, hc⟩ := O.third
  cases e
  refine ⟨k.fam, ⟨(hS k hk).1, k, hk, ?_, hl, hr, rfl⟩, (hS k hk).2⟩
  rw [← hc, List.drop_zero]
  exact (List.take_of_length_le (by omega)).symm
end
/-- A row one adds to: its family holds things of its size only. -/
def OwnZ (B : Nat) (h : Heap) (s : Nat) (v : Value) (n : Nat) (cs : List Value) : Prop := Own prog B h s v n cs ∧ ∀ b k, blkOf v = some b → h.get b = some k → SzF h k.fam s ∧ B ≤ k.fam
theorem OwnZ.nil0 {B : Nat} {h : Heap} {s : Nat} : OwnZ B h s (.slice none 0 0) 0 [] := ⟨Own.nil0, fun b k e => by cases e⟩
theorem OwnZ.ch {B : Nat} {h h' : Heap} {s n : Nat} {v : Value} {cs : List Value} {D : Nat → Prop} (O : OwnZ B h s v n cs) (C : Ch D h h') (hd : ∀ x, D x → ∃ e cs' m, VarE h x e cs' ∧ asz prog e = some m ∧ m ≠ s) : OwnZ B h' s v n cs := by
  have off : ∀ b k, blkOf v = some b → h.get b = some k → ∀ x, D x → ¬ FR k.fam h x := fun b k hb g x d => by
    obtain ⟨e, cs', m, V, he, hm⟩ := hd x d
    exact V.1.offF (V.ne (O.2 b k hb g).1 he hm)
  have nd : ∀ b, blkOf v = some b → ¬ D b := fun b hb d => by
    obtain ⟨_, k, g, _⟩ := O.1.1.blk_lt hb
    exact off b k hb g b d ⟨k, g, rfl⟩
  refine ⟨Ch.own C O.1 nd, fun b k hb g => ?_⟩
  obtain ⟨hlt, k0, g0, _⟩ := O.1.1.blk_lt hb
  rw [Ch.at C hlt (nd b hb), g0] at g
  cases g
  exact ⟨(O.2 b _ hb g0).1.ch C (off b _ hb g0), (O.2 b _ hb g0).2⟩
theorem OwnZ.keeps {B : Nat} {h h' : Heap} {s n : Nat} {v : Value} {cs : List Value} (O : OwnZ B h s v n cs) (K : Keeps h h') : OwnZ B h' s v n cs := O.ch K fun x e => e.elim
theorem SzF.new {h : Heap} (H : Wf h) {e : TypeId} {cs : List Value} {s : Nat} (he : asz prog e = some s) : SzF (h.new e cs) h.size s := by
  refine ⟨Nat.lt_succ_self _, fun x k' g e1 => ?_⟩
  rcases Nat.lt_trichotomy x h.size with hx | hx | hx
  · have hg : (h.new e cs).get x = h.get x := Heap.push_ne (by omega)
    rw [hg] at g
    have := H.2 x k' g
    omega
  · subst hx
    rw [new_self] at g; cases g
    exact he
  · have := (Keeps.new H e cs).1.lt g
    have h2 : x < h.size + 1 := this
    omega
/-- One element more. -/
theorem OwnZ.append1 {h : Heap} (H : Wf h) {B s n m : Nat} {v : Value} {cs : List Value} (hB : B ≤ h.size) (O : OwnZ B h s v n cs) {t e : TypeId} {i : TypeInfo} (ht : prog.underlying t = some (.slice e))
    (hi : prog.info? e = some i) (hz : zeroFits i = true ∧ i.bytes = m ∧ i.size = s) (hs : 0 < s) (hm : 0 < m) {xs : List Value} (hx : xs.length = s) (hbig : (n + 1) * m ≤ 140737488355328) :
    ∃ h', aappend prog (h.new e xs) t t v (.slice (some ⟨h.size, 0, none⟩) 1 2) = some (.slice (some ⟨h.size + 1, 0, none⟩) (n + 1) 0, h') ∧ OwnZ B h' s (.slice (some ⟨h.size + 1, 0, none⟩) (n + 1) 0) (n + 1) (cs ++ xs) ∧ Ch (fun b => blkOf v = some b ∧ B ≤ b) h h' ∧ Reads h h' ∧ h'.size = h.size + 2 := by
  obtain ⟨v', h', e1, O2, C, R, rfl, k, g1, g2⟩ := Own.append1 H hB O.1 ht hi hz hs hm hx hbig
  have hae : asz prog e = some s := by simp [asz, hi, hz.2.2]
  have key : h'.size = h.size + 2 ∧ ∀ k, h'.get (h.size + 1) = some k → SzF h' k.fam s ∧ B ≤ k.fam := by
    have K := Keeps.new H e xs
    have hw := Ch.wf K
    obtain ⟨O1, F1⟩ := O.keeps K
    obtain ⟨hz1, hz2, hz3⟩ := hz
    subst hz2 hz3
    have hxn : anews (h.new e xs) i.size (.slice (some ⟨h.size, 0, none⟩) 1 2) = some (1, xs) := by
      simp only [anews, new_self]
      rw [if_pos (by simp [hx])]
      simp [← hx]
    have hsz : (h.new e xs).size = h.size + 1 := rfl
    generalize h.new e xs = h1 at *
    obtain ⟨⟨q1, q2⟩, q3⟩ := O1
    have hnew : ∀ ys : List Value, h' = h1.new e ys → h'.size = h.size + 2 ∧ ∀ k, h'.get (h.size + 1) = some k → SzF h' k.fam i.size ∧ B ≤ k.fam := by
      rintro ys rfl
      refine ⟨by rw [newSz, hsz], fun k g => ?_⟩
      rw [← hsz, new_self] at g; cases g
      exact ⟨SzF.new hw hae, by show B ≤ h1.size; omega⟩
    rcases q2 with ⟨rfl, hv⟩ | ⟨b, o, c, kk, rfl, hlt, hk, hlv, ha, ho, hc⟩
    · have hcs : cs = [] := by simpa using q1
      subst hcs
      apply hnew xs
      have e2 : aappend prog h1 t t v (.slice (some ⟨h.size, 0, none⟩) 1 2) = some (.slice (some ⟨h1.size, 0, none⟩) 1 0, h1.new e xs) := by
        simp only [Nat.zero_add, Nat.one_mul] at hbig
        rcases hv with rfl | rfl <;> simp [aappend, ht, hi, isRowD, hm, hz1, hxn, hbig]
      exact (Prod.mk.inj (Option.some.inj (e1.symm.trans e2))).2
    · by_cases hex : c = n + 1
      · apply hnew ((kk.cells.drop o).take (n * i.size) ++ xs)
        have e2 : aappend prog h1 t t (.slice (some ⟨b, o, none⟩) n c) (.slice (some ⟨h.size, 0, none⟩) 1 2) = some (.slice (some ⟨h1.size, 0, none⟩) (n + 1) 0, h1.new e ((kk.cells.drop o).take (n * i.size) ++ xs)) := by
          simp only [aappend, ht, hi, isRowD, hm, hz1, hxn, Nat.one_ne_zero, if_false, hk, hlv, ho, ha, hbig, hex, if_true, true_and, and_self]
        exact (Prod.mk.inj (Option.some.inj (e1.symm.trans e2))).2
      · obtain ⟨b', o', c', k', e3, hB', hk', hr, htl, hol, _⟩ : ∃ b' o' c' k', (Value.slice (some ⟨b, o, none⟩) n c) = .slice (some ⟨b', o', none⟩) n c' ∧ B ≤ b' ∧ h1.get b' = some k' ∧ k'.ro = false ∧ k'.tail = true ∧ o' + n * i.size = k'.cells.length ∧ b' < h1.size := by
          rcases q3 with ⟨_, e⟩ | ⟨_, e⟩ | h3
          · cases e
          · cases e; exact absurd rfl hex
          · exact h3
        cases e3
        rw [hk] at hk'; cases hk'
        have hF := F1 b kk rfl hk
        have hgrow : h1.grow b kk o (n * i.size) xs = (h1.put b { kk with tail := false }).push ⟨(kk.cells.drop o).take (n * i.size) ++ xs, kk.elem, kk.fam, true, true, false⟩ := by
          simp only [Heap.grow]
          rw [if_pos ⟨htl, hol⟩]
        have e2 : aappend prog h1 t t (.slice (some ⟨b, o, none⟩) n c) (.slice (some ⟨h.size, 0, none⟩) 1 2) = some (.slice (some ⟨h1.size, 0, none⟩) (n + 1) 0, h1.grow b kk o (n * i.size) xs) := by
          simp only [aappend, ht, hi, isRowD, hm, hz1, hxn, Nat.one_ne_zero, if_false, hk, hlv, ho, ha, hbig, hex, hr, if_true, true_and, and_self]
        have e4 := (Prod.mk.inj (Option.some.inj (e1.symm.trans e2))).2
        rw [e4, hgrow]
        have hps : (h1.put b { kk with tail := false }).size = h1.size := rfl
        refine ⟨by show h1.size + 1 = _; omega, fun k g => ?_⟩
        have g' : ((h1.put b { kk with tail := false }).push ⟨(kk.cells.drop o).take (n * i.size) ++ xs, kk.elem, kk.fam, true, true, false⟩).get h1.size = some ⟨(kk.cells.drop o).take (n * i.size) ++ xs, kk.elem, kk.fam, true, true, false⟩ := Heap.push_self
        rw [← hsz, g'] at g; cases g
        refine ⟨⟨by show kk.fam < h1.size + 1; have := hF.1.1; omega, fun x k' g e => ?_⟩, hF.2⟩
        by_cases hx : x = h1.size
        · subst hx
          rw [g'] at g; cases g
          exact ha
        · rw [Heap.push_ne (by rw [hps]; exact hx)] at g
          by_cases hxb : x = b
          · subst hxb
            rw [Heap.put_self] at g; cases g
            exact ha
          · rw [Heap.put_ne hxb] at g
            exact hF.1.2 x k' g e
  exact ⟨h', e1, ⟨O2, fun b k hb g => by cases hb; exact key.2 k g⟩, C, R, key.1⟩
/-- Cells in a row one may write. -/
def CF (h : Heap) (kb f : Nat) (l : List Cel) : Prop := ∃ ps : List PC, ps.map Prod.snd = l ∧ VarF h kb f 3 (ps.flatMap cC) ∧ ∀ p, p ∈ ps → RdI prog h .i32 p.1 p.2.tx
def cvF (kb n : Nat) : Value := .slice (some ⟨kb, 0, none⟩) n 0
section
variable {h h' : Heap} {kb f : Nat} {l : List Cel} {D : Nat → Prop}
theorem CF.sz (G : CF h kb f l) : SzF h f 3 := by obtain ⟨ps, e, V, A⟩ := G; exact V.1
theorem CF.keeps (H : Wf h) (G : CF h kb f l) (K : Keeps h h') : CF h' kb f l := by
  obtain ⟨ps, e, V, A⟩ := G
  exact ⟨ps, e, V.keeps H K, fun p hp => (A p hp).keeps K⟩
/-- Behind what changes things of other sizes. -/
theorem CF.ch (H : Wf h) (G : CF h kb f l) (C : Ch D h h') (hD : ∀ b, D b → ∃ e cs m, VarE h b e cs ∧ asz prog e = some m ∧ m ≠ 1 ∧ m ≠ 3) : CF h' kb f l := by
  obtain ⟨ps, e, V, A⟩ := G
  exact ⟨ps, e, V.ch H C fun x d => by
    obtain ⟨e, cs, m, W, h1, h2, h3⟩ := hD x d
    exact W.1.offF (W.ne V.1 h1 h3), fun p hp => Ch.rd C (A p hp) fun b hb d => by
    obtain ⟨e, cs, m, W, h1, h2, h3⟩ := hD b d
    exact Rd.elsewhere (A p hp) W h1 h2 hb⟩
theorem CF.at (G : CF h kb f l) {i : Nat} {c : Cel} (hi : l[i]? = some c) : ∃ tv, RdI prog h .i32 tv c.tx ∧ aload prog h 23 ⟨kb, i * 3, none⟩ = some tv := by
  obtain ⟨ps, rfl, V, A⟩ := G
  rw [List.getElem?_map, Option.map_eq_some_iff] at hi
  obtain ⟨p, hp, rfl⟩ := hi
  have h0 := V.load1 (t := 23) underlying23 rfl (i := i * 3 + 0)
  rw [fm_at cC_len hp (by decide)] at h0
  exact ⟨p.1, A p (List.mem_of_getElem? hp), h0⟩
theorem CF.index {n : Nat} {z : Int} (h0 : 0 ≤ z) (h1 : z < n) : aindexAddr prog 27 (cvF kb n) (.int .i64 z) = some (.pointer (some ⟨kb, z.toNat * 3, none⟩)) := by
  simp [aindexAddr, cvF, underlying27, asz63, h0, h1]
theorem CF.len {n : Nat} : abuiltin prog .len #[27] #[cvF kb n] = some (.int .i64 n) := by
  simp [abuiltin, cvF, underlying27]
theorem CF.set (H : Wf h) (G : CF h kb f l) {i : Nat} (hi : i < l.length) {tv : Value} {c : Cel} (T : RdI prog h .i32 tv c.tx) :
    ∃ h', storeV prog h 63 (.pointer (some ⟨kb, i * 3, none⟩)) (.agg #[tv, .int .i64 c.ar, .bool c.wd]) = some (undef, h') ∧ CF h' kb f (l.set i c) ∧ Ch (FR f h) h h' ∧ h'.size = h.size := by
  obtain ⟨ps, rfl, V, A⟩ := G
  rw [List.length_map] at hi
  have hcells : (Value.agg #[tv, .int .i64 c.ar, .bool c.wd]).cells.toList = cC (tv, c) := by simp [Value.cells, cC]
  have o := Rd.one T
  obtain ⟨h', e1, V1, C1, z1⟩ := V.store H (t := 63) (v := .agg #[tv, .int .i64 c.ar, .bool c.wd]) (i := i * 3) asz63 (by rw [fm_len cC_len]; simp [Value.cells]; omega) (by simp [Value.cells, o, one_int, one_bool])
  rw [hcells, fm_over cC_len (x := (tv, c)) hi] at V1
  have ap : ∀ v xs, RdI prog h .i32 v xs → RdI prog h' .i32 v xs := fun v xs R => Rd.chF R V.1 C1 (by decide)
  refine ⟨h', e1, ⟨_, by rw [List.map_set], V1, fun p hp => ?_⟩, C1, z1⟩
  rcases List.mem_or_eq_of_mem_set hp with hp | rfl
  · exact ap _ _ (A p hp)
  · exact ap _ _ T
theorem CF.text (H : Wf h) (G : CF h kb f l) {i : Nat} {c : Cel} (hi : l[i]? = some c) {tv : Value} {tx : List Int} (T : RdI prog h .i32 tv tx) :
    ∃ h', storeV prog h 23 (.pointer (some ⟨kb, i * 3, none⟩)) tv = some (undef, h') ∧ CF h' kb f (l.set i { c with tx := tx }) ∧ Ch (FR f h) h h' ∧ h'.size = h.size := by
  obtain ⟨ps, rfl, V, A⟩ := G
  rw [List.getElem?_map, Option.map_eq_some_iff] at hi
  obtain ⟨p, hp, rfl⟩ := hi
  have hlt := (List.getElem?_eq_some_iff.1 hp).1
  have o := Rd.one T
  have hc := one_cells o
  obtain ⟨h', e1, V1, C1, z1⟩ := V.store H (t := 23) (v := tv) (i := i * 3) (by rw [hc]; exact asz23) (by rw [hc, fm_len cC_len]; simp; omega) (by rw [hc]; simp [o])
  have hov : over (ps.flatMap cC) (i * 3) [tv] = (ps.set i (tv, { p.2 with tx := tx })).flatMap cC := by
    rw [← fm_over cC_len (x := (tv, { p.2 with tx := tx })) hlt]
    refine List.ext_getElem? fun j => ?_
    have hl3 : i * 3 + 3 ≤ (ps.flatMap cC).length := by rw [fm_len cC_len]; omega
    rw [over_get (vs := [tv]) (by rw [List.length_singleton]; omega), over_get (vs := cC (tv, { p.2 with tx := tx })) (by rw [cC_len]; omega)]
    rw [List.length_singleton, cC_len]
    by_cases h1 : i * 3 ≤ j ∧ j < i * 3 + 3
    · obtain ⟨d, rfl⟩ : ∃ d, j = i * 3 + d := ⟨j - i * 3, by omega⟩
      have hd : d = 0 ∨ d = 1 ∨ d = 2 := by omega
      rcases hd with rfl | rfl | rfl
      · rw [if_pos (by omega), if_pos (by omega)]; simp [cC]
      · rw [if_neg (by omega), if_pos (by omega), fm_at cC_len hp (by decide)]; simp [cC]
      · rw [if_neg (by omega), if_pos (by omega), fm_at cC_len hp (by decide)]; simp [cC]
    · rw [if_neg (by omega), if_neg (by omega)]
  rw [hc] at V1
  have V1' : VarF h' kb f 3 (over (ps.flatMap cC) (i * 3) [tv]) := V1
  rw [hov] at V1'
  have ap : ∀ v xs, RdI prog h .i32 v xs → RdI prog h' .i32 v xs := fun v xs R => Rd.chF R V.1 C1 (by decide)
  refine ⟨h', e1, ⟨_, by rw [List.map_set], V1', fun q hq => ?_⟩, C1, z1⟩
  rcases List.mem_or_eq_of_mem_set hq with hq | rfl
  · exact ap _ _ (A q hq)
  · exact ap _ _ T
theorem CF.gr (H : Wf h) (G : CF h kb f l) : GR h (cvF kb l.length) l := by
  obtain ⟨ps, rfl, V, A⟩ := G
  refine ⟨ps, rfl, ?_, A⟩
  have hl := (V.lt H).1
  have sz := fun {k} g => V.sz (k := k) g
  obtain ⟨S, k, g1, g2, g3, g4, g5⟩ := V
  rw [List.length_map]
  refine ⟨fm_len cC_len, .inr ⟨kb, 0, 0, k, rfl, hl, g1, g3, sz g1, ?_, ?_⟩⟩
  · rw [g2, fm_len cC_len]; omega
  · rw [g2, List.drop_zero]; exact List.take_of_length_le (by rw [fm_len cC_len]; omega)
end
/-- A grid of the document that is drawn. -/
structure GS (h : Heap) (gb kb f : Nat) (R C : Int) (l : List Cel) : Prop where
  V : VarE h gb 29 [.int .i64 R, .int .i64 C, cvF kb l.length, .int .i64 0, .int .i64 0]
  G : CF h kb f l
  i : 2 ≤ R ∧ R ≤ 500 ∧ 2 ≤ C ∧ C ≤ 1000 ∧ R * C = l.length
section
variable {h h' : Heap} {gb kb f : Nat} {R C : Int} {l : List Cel} {D : Nat → Prop}
theorem GS.len (S : GS h gb kb f R C l) : l.length ≤ 500000 := by
  have h1 : R * C ≤ 500 * 1000 := Int.mul_le_mul S.i.2.1 S.i.2.2.2.1 (by have := S.i; omega) (by omega)
  have := S.i.2.2.2.2; omega
theorem GS.ne (S : GS h gb kb f R C l) : gb ≠ f := S.V.ne S.G.sz asz29 (by decide)
theorem GS.keeps (H : Wf h) (S : GS h gb kb f R C l) (K : Keeps h h') : GS h' gb kb f R C l := ⟨S.V.keeps H K, S.G.keeps H K, S.i⟩
theorem GS.loads (S : GS h gb kb f R C l) : aload prog h 3 ⟨gb, 0, none⟩ = some (.int .i64 R) ∧ aload prog h 3 ⟨gb, 1, none⟩ = some (.int .i64 C) ∧ aload prog h 27 ⟨gb, 2, none⟩ = some (cvF kb l.length) :=
  ⟨S.V.1.load1 (P := prog) (t := 3) underlying3 rfl (i := 0), S.V.1.load1 (P := prog) (t := 3) underlying3 rfl (i := 1), S.V.1.load1 (P := prog) (t := 27) underlying27 rfl (i := 2)⟩
theorem GS.with (H : Wf h) (S : GS h gb kb f R C l) (C1 : Ch (FR f h) h h') {l' : List Cel} (G : CF h' kb f l') (hl : l'.length = l.length) : GS h' gb kb f R C l' :=
  ⟨by rw [hl]; exact S.V.ch H C1 (S.V.1.offF S.ne), G, by rw [hl]; exact S.i⟩
end
end Go.Proofs.YtcgajolmjjeibaaDoor.Am
end
section
/- Grids of the document: contracts of at, set, blank, Blank, by walks. -/
set_option linter.unusedSimpArgs false
set_option linter.unusedVariables false
set_option maxHeartbeats 4000000
set_option maxRecDepth 20000
namespace Go.Proofs.YtcgajolmjjeibaaDoor.Am
open Go Go.RowKit Go.Proofs.Tryd
def atZ : Option Nat → Int
  | none => -1
  | some i => i
def setM (R C y z lo hi : Int) (l : List Cel) (c : Cel) : List Cel := if lo ≤ z ∧ z < hi then putM l (cellM R C y 0 C z) c else l
theorem setM_len {R C y z lo hi : Int} {l : List Cel} {c : Cel} : (setM R C y z lo hi l c).length = l.length := by unfold setM; split <;> simp [putM_len]
theorem at_ok {h : Heap} {gb kb f : Nat} {R C y z : Int} {l : List Cel} (S : GS h gb kb f R C l) :
    ACalls prog 53 #[pt gb, .int .i64 y, .int .i64 z] h (fun v h' => v = .int .i64 (atZ (cellM R C y 0 C z)) ∧ h' = h) := by
  refine acalls_of_W func53 rfl (by kernel_rfl) (by kernel_rfl) (by simp [ntmps53]) ?_
  obtain ⟨c0, c1, c2⟩ := S.loads
  have hi5 := S.i
  have hm := S.i.2.2.2.2
  have hln := S.len
  have none1 : (y < 0 ∨ R ≤ y ∨ z < 0 ∨ C ≤ z) → cellM R C y 0 C z = none := fun e => by unfold cellM; rw [if_pos e]
  by_cases a1 : y < 0
  · have d1 := decide_eq_true a1
    simp only [wk, wt, wl, ↓reduceIte, Nat.reduceEqDiff, Nat.reduceAdd, Nat.zero_add, not_false_eq_true, not_true_eq_false, pt, d1]
    rw [none1 (.inl a1)]; exact ⟨rfl, trivial⟩
  have d1 := decide_eq_false a1
  by_cases a2 : R ≤ y
  · have d2 := decide_eq_true a2
    simp only [wk, wt, wl, ↓reduceIte, Nat.reduceEqDiff, Nat.reduceAdd, Nat.zero_add, not_false_eq_true, not_true_eq_false, pt, d1, c0, d2]
    rw [none1 (.inr (.inl a2))]; exact ⟨rfl, trivial⟩
  have d2 := decide_eq_false a2
  by_cases a3 : z < 0
  · have d3 := decide_eq_true a3
    simp only [wk, wt, wl, ↓reduceIte, Nat.reduceEqDiff, Nat.reduceAdd, Nat.zero_add, not_false_eq_true, not_true_eq_false, pt, d1, c0, d2, d3]
    rw [none1 (.inr (.inr (.inl a3)))]; exact ⟨rfl, trivial⟩
  have d3 := decide_eq_false a3
  by_cases a4 : C ≤ z
  · have d4 := decide_eq_true a4
    simp only [wk, wt, wl, ↓reduceIte, Nat.reduceEqDiff, Nat.reduceAdd, Nat.zero_add, not_false_eq_true, not_true_eq_false, pt, d1, c0, c1, d2, d3, d4]
    rw [none1 (.inr (.inr (.inr a4)))]; exact ⟨rfl, trivial⟩
  have d4 := decide_eq_false a4
  have hsome : cellM R C y 0 C z = some (y * C + z).toNat := by unfold cellM; rw [if_neg (by omega)]
  have hb := cellM_lt hsome (by omega) (by omega) hm
  have w1 : IntKind.i64.wrap (y * C) = y * C := IntWalk.i64_in _ (by omega)
  have w2 : IntKind.i64.wrap (y * C + z) = y * C + z := IntWalk.i64_in _ (by omega)
  simp only [wk, wt, wl, ↓reduceIte, Nat.reduceEqDiff, Nat.reduceAdd, Nat.zero_add, not_false_eq_true, not_true_eq_false, pt, d1, c0, c1, d2, d3, d4, w1, w2]
  rw [hsome]
  refine ⟨?_, trivial⟩
  simp only [atZ, Value.int.injEq, true_and]
  omega
theorem set_ok {h : Heap} {gb kb f : Nat} {R C y z lo hi : Int} {l : List Cel} {c : Cel} {tv : Value} (S : GS h gb kb f R C l) (T : RdI prog h .i32 tv c.tx) :
    ACalls prog 23 #[pt gb, .int .i64 y, .int .i64 z, .int .i64 lo, .int .i64 hi, .agg #[tv, .int .i64 c.ar, .bool c.wd]] h (fun v h' => GS h' gb kb f R C (setM R C y z lo hi l c) ∧ Ch (FR f h) h h') := by
  refine acalls_of_W' func23 rfl (by kernel_rfl) (by kernel_rfl) (by simp [ntmps23]) ?_
  intro H
  have o1 := Rd.one T
  have N1 := Keeps.new H 63 [tv, .int .i64 c.ar, .bool c.wd]
  have V1 := Var.new (e := 63) H (cs := [tv, .int .i64 c.ar, .bool c.wd])
  have L1 := V1.loadA (P := prog) (t := 63) underlying63 rfl asz63
  have S1 := S.keeps H N1
  have T1 : RdI prog _ .i32 tv c.tx := RdI.keeps T N1
  have hz1 : (h.new 63 [tv, .int .i64 c.ar, .bool c.wd]).size = h.size + 1 := rfl
  simp only [wk, wt, wl, ↓reduceIte, Nat.reduceEqDiff, Nat.reduceAdd, Nat.zero_add, not_false_eq_true, not_true_eq_false, aeff_box, boxV_cell o1, pt]
  generalize h.new 63 [tv, .int .i64 c.ar, .bool c.wd] = h1 at *
  refine (at_ok S1).use_pure ?_
  have hkeep : setM R C y z lo hi l c = l → GS h1 gb kb f R C (setM R C y z lo hi l c) ∧ Ch (FR f h) h h1 := fun e => by
    rw [e]; exact ⟨S1, N1.rg⟩
  cases ho : cellM R C y 0 C z with
  | none =>
    have e0 : setM R C y z lo hi l c = l := by unfold setM; rw [ho]; simp [putM]
    have dn : decide (0 ≤ (-1 : Int)) = false := rfl
    simp only [wk, wt, wl, ↓reduceIte, Nat.reduceEqDiff, Nat.reduceAdd, Nat.zero_add, not_false_eq_true, not_true_eq_false, atZ, dn]
    exact hkeep e0
  | some i =>
    have hb := cellM_lt ho (by omega) (by omega) S.i.2.2.2.2
    have d0 : decide ((i : Int) ≥ 0) = true := decide_eq_true (by omega)
    have d0' : decide (0 ≤ (i : Int)) = true := decide_eq_true (by omega)
    by_cases a1 : lo ≤ z
    case neg =>
      have d1 := decide_eq_false a1
      simp only [wk, wt, wl, ↓reduceIte, Nat.reduceEqDiff, Nat.reduceAdd, Nat.zero_add, not_false_eq_true, not_true_eq_false, atZ, d0, d0', d1]
      exact hkeep (by unfold setM; rw [if_neg (fun e => a1 e.1)])
    have d1 := decide_eq_true a1
    by_cases a2 : z < hi
    case neg =>
      have d2 := decide_eq_false a2
      simp only [wk, wt, wl, ↓reduceIte, Nat.reduceEqDiff, Nat.reduceAdd, Nat.zero_add, not_false_eq_true, not_true_eq_false, atZ, d0, d0', d1, d2]
      exact hkeep (by unfold setM; rw [if_neg (fun e => a2 e.2)])
    have d2 := decide_eq_true a2
    have e0 : setM R C y z lo hi l c = l.set i c := by unfold setM; rw [if_pos ⟨a1, a2⟩, ho]; rfl
    rw [e0]
    obtain ⟨h2, e2, G2, C2, z2⟩ := S1.G.set (Ch.wf N1) (i := i) (c := c) hb.1 T1
    have IX : aindexAddr prog 27 (cvF kb l.length) (.int .i64 (i : Int)) = some (.pointer (some ⟨kb, i * 3, none⟩)) := by have := CF.index (kb := kb) (n := l.length) (z := (i : Int)) (by omega) (by omega); rwa [Int.toNat_natCast] at this
    simp only [wk, wt, wl, ↓reduceIte, Nat.reduceEqDiff, Nat.reduceAdd, Nat.zero_add, not_false_eq_true, not_true_eq_false, atZ, d0, d0', d1, d2]
    refine adraw_order [(0, false), (1, false), (2, false), (3, false), (4, false), (5, false), (6, false), (7, false)] mixed (by kernel_rfl) (by kernel_rfl) (by kernel_rfl) (by with_reducible repeat (first | exact PF_retK | refine PF_thenK ?_ | refine PF_blockK ?_)) ?_
    simp only [wk, wt, wl, ↓reduceIte, Nat.reduceEqDiff, Nat.reduceAdd, Nat.zero_add, not_false_eq_true, not_true_eq_false, pt, (S1.loads).2.2, L1, IX, e2]
    exact ⟨S1.with (Ch.wf N1) C2 G2 (by simp), N1.rg.thenR C2⟩
theorem blankD_ok {h : Heap} {a : Int} : ACalls prog 24 #[.int .i64 a] h (fun y h' => ∃ tv, y = .agg #[tv, .int .i64 a, .bool false] ∧ RdI prog h' .i32 tv [32] ∧ (∀ z, blkOf tv = some z → h.size ≤ z) ∧ Keeps h h') := by
  refine acalls_of_W' func24 rfl (by kernel_rfl) (by kernel_rfl) (by simp [ntmps24]) ?_
  intro H
  have N1 := Keeps.new H 63 [.slice none 0 0, .int .i64 0, .bool false]
  have V1 := Var.new (e := 63) H (cs := [.slice none 0 0, .int .i64 0, .bool false])
  have N2 := Keeps.new (Ch.wf N1) 21 [.int .i32 32]
  have R2 : RdI prog ((h.new 63 [.slice none 0 0, .int .i64 0, .bool false]).new 21 [.int .i32 32]) .i32 (.slice (some ⟨h.size + 1, 0, none⟩) 1 2) [32] := Rd.new (Ch.wf N1) asz21 (by simp)
  have V2 := Keeps.var (Ch.wf N1) N2 V1
  have bc : abuild prog 63 #[(0, .slice (some ⟨h.size + 1, 0, none⟩) 1 2), (1, .int .i64 a)] = some (.agg #[.slice (some ⟨h.size + 1, 0, none⟩) 1 2, .int .i64 a, .bool false]) := by simp [abuild, wt, aplaces, Instr.fill, Value.cells]
  simp only [wk, wt, wl, ↓reduceIte, Nat.reduceEqDiff, Nat.reduceAdd, Nat.zero_add, not_false_eq_true, not_true_eq_false, new_size, bc]
  generalize (h.new 63 [.slice none 0 0, .int .i64 0, .bool false]).new 21 [.int .i32 32] = h2 at *
  obtain ⟨h3, e3, V3, C3, z3⟩ := V2.store (P := prog) (t := 63) (v := .agg #[.slice (some ⟨h.size + 1, 0, none⟩) 1 2, .int .i64 a, .bool false]) (i := 0) (Ch.wf N2) asz63 (by simp [Value.cells]) (by simp [Value.cells, one])
  simp only [Value.cells, over_all (xs := [.slice none 0 0, .int .i64 0, .bool false]) (vs := [.slice (some ⟨h.size + 1, 0, none⟩) 1 2, .int .i64 a, .bool false]) rfl] at V3
  have L3 := V3.loadA (P := prog) (t := 63) underlying63 rfl asz63
  simp only [wk, wt, wl, ↓reduceIte, Nat.reduceEqDiff, Nat.reduceAdd, Nat.zero_add, not_false_eq_true, not_true_eq_false, e3, L3]
  exact ⟨_, rfl, Ch.rd C3 R2 fun y hy e => by have e2 : h.size + 1 = y := (by cases hy; rfl); omega, fun z hz => by have e2 : h.size + 1 = z := (by cases hz; rfl); omega, (N1.trans N2).step C3 fun y e => by omega⟩
theorem Rd.diff {h : Heap} {s s' n n' : Nat} {v v' : Value} {xs xs' : List Value} (R : Rd prog h s v n xs) (R' : Rd prog h s' v' n' xs') (hne : s ≠ s') {b : Nat} (h1 : blkOf v = some b) (h2 : blkOf v' = some b) : False := by
  obtain ⟨_, ⟨_, rfl | rfl⟩ | ⟨b1, o, c, k, rfl, _, hk, _, ha, _⟩⟩ := R
  · cases h1
  · cases h1
  obtain ⟨_, ⟨_, rfl | rfl⟩ | ⟨b2, o2, c2, k2, rfl, _, hk2, _, ha2, _⟩⟩ := R'
  · cases h2
  · cases h2
  cases h1; cases h2
  rw [hk] at hk2; cases hk2
  rw [ha] at ha2; cases ha2
  exact hne rfl
theorem sizeR_ref {r : Int} : imax 2 (imin r 500) = sizeR r := by
  unfold sizeR imax imin
  (repeat' split) <;> omega
theorem sizeC_ref {c : Int} : imax 2 (imin c 1000) = sizeC c := by
  unfold sizeC imax imin
  (repeat' split) <;> omega
theorem refBlank_ok {h : Heap} {r c : Int} : ACalls prog 20 #[.int .i64 r, .int .i64 c] h (fun y h' => ∃ kb f, y = .agg #[.int .i64 (sizeR r), .int .i64 (sizeC c), cvF kb (blankL r c).length, .int .i64 0, .int .i64 0] ∧ CF h' kb f (blankL r c) ∧ h.size ≤ f ∧ Keeps h h') := by
  refine acalls_of_W' func20 rfl (by kernel_rfl) (by kernel_rfl) (by simp [ntmps20]) ?_
  intro H
  have hRC := size_rc r c
  obtain ⟨hm, hnn⟩ := size_mul r c
  obtain ⟨n, hn⟩ : ∃ n : Nat, (blankL r c).length = n := ⟨_, rfl⟩
  have hbl : blankL r c = List.replicate n (bl 0) := by rw [← hn]; unfold blankL; rw [List.length_replicate]
  rw [hn] at hm hnn
  rw [hbl, List.length_replicate]
  have hsr := sizeR_ref (r := r)
  have hsc := sizeC_ref (c := c)
  have wm : IntKind.i64.wrap (sizeR r * sizeC c) = (n : Int) := by rw [← hm]; exact IntWalk.i64_in _ (by omega)
  have hn4 : 1 ≤ n := by
    have : 2 * 2 ≤ sizeR r * sizeC c := Int.mul_le_mul (by omega) (by omega) (by omega) (by omega)
    omega
  generalize sizeR r = R at *
  generalize sizeC c = C at *
  have N1 := Keeps.new H 29 [.int .i64 0, .int .i64 0, .slice none 0 0, .int .i64 0, .int .i64 0]
  have N2 := Keeps.new (Ch.wf N1) 29 [.int .i64 0, .int .i64 0, .slice none 0 0, .int .i64 0, .int .i64 0]
  have V2 := VarE.new (e := 29) (Ch.wf N1) (cs := [.int .i64 0, .int .i64 0, .slice none 0 0, .int .i64 0, .int .i64 0])
  have U2 := (VarE.new (e := 29) H (cs := [.int .i64 0, .int .i64 0, .slice none 0 0, .int .i64 0, .int .i64 0])).keeps (Ch.wf N1) N2
  simp only [new_size] at V2
  have bg : abuild prog 29 #[(0, .int .i64 R), (1, .int .i64 C)] = some (.agg #[.int .i64 R, .int .i64 C, .slice none 0 0, .int .i64 0, .int .i64 0]) := by simp [abuild, wt, aplaces, Instr.fill, Value.cells]
  simp only [wk, wt, wl, ↓reduceIte, Nat.reduceEqDiff, Nat.reduceAdd, Nat.zero_add, not_false_eq_true, not_true_eq_false, mxV, mnV, hsr, hsc, new_size, bg]
  have K2 := N1.trans N2
  generalize (h.new 29 [.int .i64 0, .int .i64 0, .slice none 0 0, .int .i64 0, .int .i64 0]).new 29 [.int .i64 0, .int .i64 0, .slice none 0 0, .int .i64 0, .int .i64 0] = h2 at *
  obtain ⟨h3, e3, V3, C3, z3⟩ := V2.store (Ch.wf N2) (t := 29) (v := .agg #[.int .i64 R, .int .i64 C, .slice none 0 0, .int .i64 0, .int .i64 0]) (i := 0) asz29 (by simp [Value.cells]) (by simp [Value.cells, one])
  simp only [Value.cells, over_all (xs := [.int .i64 0, .int .i64 0, .slice none 0 0, .int .i64 0, .int .i64 0]) (vs := [.int .i64 R, .int .i64 C, .slice none 0 0, .int .i64 0, .int .i64 0]) rfl] at V3
  have K3 := K2.step C3 fun y e => by omega
  have U3 := U2.ch (Ch.wf K2) C3 (by omega)
  have LG := fun {hh : Heap} {v : Value} (V : VarE hh (h.size + 1) 29 [.int .i64 R, .int .i64 C, v, .int .i64 0, .int .i64 0]) => (⟨V.1.load1 (P := prog) (i := 0) (t := 3) underlying3 rfl, V.1.load1 (P := prog) (i := 1) (t := 3) underlying3 rfl, V.1.load1 (P := prog) (i := 2) (t := 27) underlying27 rfl, V.1.loadA (P := prog) (t := 29) underlying29 rfl asz29⟩ : aload prog hh 3 ⟨h.size + 1, 0, none⟩ = some (.int .i64 R) ∧ aload prog hh 3 ⟨h.size + 1, 1, none⟩ = some (.int .i64 C) ∧ aload prog hh 27 ⟨h.size + 1, 2, none⟩ = some v ∧ aload prog hh 29 ⟨h.size + 1, 0, none⟩ = some (.agg #[.int .i64 R, .int .i64 C, v, .int .i64 0, .int .i64 0]))
  simp only [wk, wt, wl, ↓reduceIte, Nat.reduceEqDiff, Nat.reduceAdd, Nat.zero_add, not_false_eq_true, not_true_eq_false, e3]
  refine W_loop (fun tm hh => tm 4 = pt h.size ∧ tm 5 = pt (h.size + 1) ∧ Keeps h hh ∧ VarE hh h.size 29 [.int .i64 0, .int .i64 0, .slice none 0 0, .int .i64 0, .int .i64 0] ∧ ∃ (i : Nat) (cv : Value) (ps : List PC), tm 6 = .int .i64 (i : Int) ∧ i ≤ n ∧ ps.map Prod.snd = List.replicate i (bl 0) ∧ VarE hh (h.size + 1) 29 [.int .i64 R, .int .i64 C, cv, .int .i64 0, .int .i64 0] ∧
      OwnZ h.size hh 3 cv i (ps.flatMap cC) ∧ (1 ≤ i → ∃ a, cv = .slice (some ⟨a, 0, none⟩) i 0) ∧ ∀ p, p ∈ ps → RdI prog hh .i32 p.1 p.2.tx)
    (fun tm _ => (n - intOf (tm 6)).toNat) ⟨(by first | rfl | (simp only [wk, wt, wl, ↓reduceIte, Nat.reduceEqDiff, Nat.reduceAdd, Nat.zero_add, not_false_eq_true, not_true_eq_false]; done) | (simp only [wk, wt, wl, ↓reduceIte, Nat.reduceEqDiff, Nat.reduceAdd, Nat.zero_add, not_false_eq_true, not_true_eq_false]; rfl)), (by first | rfl | (simp only [wk, wt, wl, ↓reduceIte, Nat.reduceEqDiff, Nat.reduceAdd, Nat.zero_add, not_false_eq_true, not_true_eq_false]; done) | (simp only [wk, wt, wl, ↓reduceIte, Nat.reduceEqDiff, Nat.reduceAdd, Nat.zero_add, not_false_eq_true, not_true_eq_false]; rfl)), K3, U3, 0, .slice none 0 0, [], (by first | rfl | (simp only [wk, wt, wl, ↓reduceIte, Nat.reduceEqDiff, Nat.reduceAdd, Nat.zero_add, not_false_eq_true, not_true_eq_false]; done) | (simp only [wk, wt, wl, ↓reduceIte, Nat.reduceEqDiff, Nat.reduceAdd, Nat.zero_add, not_false_eq_true, not_true_eq_false]; rfl)), by omega, rfl, V3, OwnZ.nil0, by omega, fun p hp => (by cases hp)⟩ ?_
  rintro tm hh ⟨t4, t5, K, U, i, cv, ps, t6, hi, hps, V, O, hcv, A⟩
  obtain ⟨a0, a1, a2, a3⟩ := LG V
  simp only [wk, wt, wl, ↓reduceIte, Nat.reduceEqDiff, Nat.reduceAdd, Nat.zero_add, not_false_eq_true, not_true_eq_false, t4, t5, t6, pt, a0, a1, wm]
  refine condK_dec (fun hd => ?_) (fun hd => ?_)
  · simp only [wk, wt, wl, ↓reduceIte, Nat.reduceEqDiff, Nat.reduceAdd, Nat.zero_add, not_false_eq_true, not_true_eq_false, t4, t5, t6, pt]
    refine adraw_order [(0, false), (1, false), (2, true), (3, true), (4, false), (5, false), (6, false)] mixed (by kernel_rfl) (by kernel_rfl) (by kernel_rfl) (by with_reducible repeat (first | exact PF_retK | refine PF_thenK ?_ | refine PF_blockK ?_)) ?_
    simp only [wk, wt, wl, ↓reduceIte, Nat.reduceEqDiff, Nat.reduceAdd, Nat.zero_add, not_false_eq_true, not_true_eq_false, dK_t, t5, pt, a2]
    refine (blankD_ok (a := 0)).use ?_
    rintro _ h6 ⟨tv, rfl, R6, hz6, K6⟩
    have hle6 := Ch.le K6
    have hleK := Ch.le K
    have O6 := O.keeps K6
    have V6 := V.keeps (Ch.wf K) K6
    have U6 := U.keeps (Ch.wf K) K6
    have B3 := buildA3 (P := prog) (h := h6) (t := 27) underlying27 asz63 azero63 rfl (Rd.one R6) (one_int (k := .i64) (x := 0)) (one_bool (b := false))
    obtain ⟨h7, e7, O7, C7, R7, z7⟩ := O6.append1 (Ch.wf K6) (by omega) (t := 27) underlying27 elem63 fits63 (by decide) (by decide) (xs := [tv, .int .i64 0, .bool false]) rfl (by omega)
    have far : ∀ {v : Value} {xs : List Int}, RdI prog h6 .i32 v xs → RdI prog h7 .i32 v xs := fun R => Ch.rd C7 R fun b hb d => Rd.diff O6.1.1 R (by decide) d.1 hb
    have V7 := V6.ch (Ch.wf K6) C7 (fun d => Rd.elsewhere O6.1.1 V6 asz29 (by decide) d.1)
    have U7 := U6.ch (Ch.wf K6) C7 (fun d => Rd.elsewhere O6.1.1 U6 asz29 (by decide) d.1)
    have K7 := (K.trans K6).step C7 fun y d => d.2
    obtain ⟨h8, e8, V8, C8, z8⟩ := V7.store1 (Ch.wf C7) (t := 27) (v := .slice (some ⟨h6.size + 1, 0, none⟩) (i + 1) 0) (i := 2) asz27 (by simp) rfl
    simp only [List.set_cons_succ, List.set_cons_zero] at V8
    have K8 := K7.step C8 fun y e => by omega
    have U8 := U7.ch (Ch.wf C7) C8 (by omega)
    have O8 := O7.ch C8 fun x e => by obtain rfl : x = h.size + 1 := e; exact ⟨_, _, 5, V7, asz29, by decide⟩
    have far8 : ∀ {v : Value} {xs : List Int}, RdI prog h7 .i32 v xs → RdI prog h8 .i32 v xs := fun R => Ch.rd C8 R fun b hb d => Rd.elsewhere R V7 asz29 (by decide) (by rw [hb, show b = h.size + 1 from d])
    refine ⟨fun _ => K6.reads (Ch.wf K), ?_⟩
    simp (disch := omega) only [wk, wt, wl, ↓reduceIte, Nat.reduceEqDiff, Nat.reduceAdd, Nat.zero_add, not_false_eq_true, not_true_eq_false, dK_t, t4, t5, t6, pt, B3, a2, e7, e8, IntWalk.i64_in, intOf_int]
    refine ⟨(Keeps.new (Ch.wf K6) _ _).reads (Ch.wf K6), ?_⟩
    exact ⟨⟨K8, U8, i + 1, _, ps ++ [(tv, bl 0)], by simp, by omega, by rw [List.map_append, hps, List.replicate_succ']; rfl, V8, by rw [List.flatMap_append]; exact O8, fun _ => ⟨_, rfl⟩, fun p hp => by
      rcases List.mem_append.1 hp with hp | hp
      · exact far8 (far ((A p hp).keeps K6))
      · obtain rfl := List.mem_singleton.1 hp
        exact far8 (far R6)⟩, by omega⟩
  · obtain rfl : i = n := by omega
    obtain ⟨a, rfl⟩ := hcv hn4
    obtain ⟨f, VF, hf⟩ := O.1.varF fun k g => O.2 a k rfl g
    obtain ⟨h8, e8, U8, C8, z8⟩ := U.store (Ch.wf K) (t := 29) (v := .agg #[.int .i64 R, .int .i64 C, .slice (some ⟨a, 0, none⟩) i 0, .int .i64 0, .int .i64 0]) (i := 0) asz29 (by simp [Value.cells]) (by simp [Value.cells, one])
    simp only [Value.cells, over_all (xs := [.int .i64 0, .int .i64 0, .slice none 0 0, .int .i64 0, .int .i64 0]) (vs := [.int .i64 R, .int .i64 C, .slice (some ⟨a, 0, none⟩) i 0, .int .i64 0, .int .i64 0]) rfl] at U8
    have UA := U8.1.loadA (P := prog) (t := 29) underlying29 rfl asz29
    have G : CF hh a f (List.replicate i (bl 0)) := ⟨ps, hps, VF, A⟩
    simp only [wk, wt, wl, ↓reduceIte, Nat.reduceEqDiff, Nat.reduceAdd, Nat.zero_add, not_false_eq_true, not_true_eq_false, t4, t5, pt, a3, e8, UA]
    exact ⟨a, f, rfl, G.ch (Ch.wf K) C8 (fun b e => by obtain rfl : b = h.size := e; exact ⟨_, _, 5, U, asz29, by decide, by decide⟩), hf, K.step C8 fun y e => by omega⟩
end Go.Proofs.YtcgajolmjjeibaaDoor.Am
end
section
/- Grids of the document: the contract of typed, by a walk. -/
set_option linter.unusedSimpArgs false
set_option linter.unusedVariables false
set_option maxHeartbeats 4000000
set_option maxRecDepth 20000
namespace Go.Proofs.YtcgajolmjjeibaaDoor.Am
open Go Go.RowKit Go.Proofs.Tryd
theorem blk_new {x n c : Nat} : ∀ z, blkOf (.slice (some ⟨x, 0, none⟩) n c) = some z → x ≤ z := fun z e => by cases e; exact Nat.le_refl _
theorem grow2 {h hA : Heap} {b0 tv : Value} {tx : List Int} (H : Wf h) (KA : Keeps h hA) (O0 : Own prog h.size hA 1 b0 0 []) (hb0 : ∀ z, blkOf b0 = some z → h.size ≤ z) (RT : RdI prog h .i32 tv tx) (hl : tx.length ≤ 1000000) :
    ∃ v2 h2, aappend prog hA 23 23 b0 tv = some (v2, h2) ∧ Own prog h.size h2 1 v2 tx.length (tx.map (Value.int .i32)) ∧ Keeps h h2 ∧ Reads hA h2 ∧ (∀ z, blkOf v2 = some z → h.size ≤ z) ∧ hA.size ≤ h2.size := by
  obtain ⟨v2, h2, e2, O2, R2, C2, hv⟩ := O0.appendRd (P := prog) (Ch.wf KA) (Ch.le KA) underlying23 underlying23 rfl elem21 fits21 (by decide) (RdI.keeps RT KA) (by omega)
  rw [Nat.zero_add, List.nil_append] at O2
  exact ⟨v2, h2, e2, O2, KA.step C2 fun b hb => hb.2, R2, fun z hz => by
    rcases hv with rfl | rfl | rfl
    · exact hb0 z hz
    · cases hz
    · have := blk_new z hz; have := Ch.le KA; omega, Ch.le C2⟩
theorem grow1 {h h2 : Heap} {v2 xv : Value} {tx : List Int} {r : Int} (K2 : Keeps h h2) (O2 : Own prog h.size h2 1 v2 tx.length (tx.map (Value.int .i32))) (hb2 : ∀ z, blkOf v2 = some z → h.size ≤ z) (RX : Rd prog h2 1 xv 1 [.int .i32 r]) (hl : tx.length ≤ 1000000) :
    ∃ v3 h3, aappend prog h2 23 23 v2 xv = some (v3, h3) ∧ RdI prog h3 .i32 v3 (tx ++ [r]) ∧ Keeps h h3 ∧ Reads h2 h3 ∧ (∀ z, blkOf v3 = some z → h.size ≤ z) := by
  obtain ⟨v3, h3, e3, O3, R3, C3, hv⟩ := O2.appendRd (P := prog) (Ch.wf K2) (Ch.le K2) underlying23 underlying23 rfl elem21 fits21 (by decide) RX (by omega)
  exact ⟨v3, h3, e3, by have := O3.1; simpa [RdI] using this, K2.step C3 fun b hb => hb.2, R3, fun z hz => by
    rcases hv with rfl | rfl | rfl
    · exact hb2 z hz
    · cases hz
    · have := blk_new z hz; have := Ch.le K2; omega⟩
def LastOk (l : List Cel) (last : Int) (k : Nat) : Prop := last = -1 ∨ ∃ (i : Nat) (c : Cel), last = (i : Int) ∧ l[i]? = some c ∧ c.tx.length ≤ k
theorem setM_tx {R C y z lo hi : Int} {l : List Cel} {c : Cel} {m : Nat} (T : TxLe m l) (hc : c.tx.length ≤ m) : TxLe m (setM R C y z lo hi l c) := by
  unfold setM
  split
  · cases cellM R C y 0 C z with
    | none => exact T
    | some i =>
      exact fun d hd => by
        rcases List.mem_or_eq_of_mem_set hd with hd | rfl
        · exact T d hd
        · exact hc
  · exact T
theorem setM_get {R C y z lo hi : Int} {l : List Cel} {c : Cel} {i : Nat} (ho : cellM R C y 0 C z = some i) (h1 : lo ≤ z) (h2 : z < hi) (hl : i < l.length) : (setM R C y z lo hi l c)[i]? = some c := by
  unfold setM
  rw [if_pos ⟨h1, h2⟩, ho]
  simp [putM, hl]
theorem setM_ne {R C y z lo hi : Int} {l : List Cel} {c : Cel} {i n : Nat} (ho : cellM R C y 0 C z = some i) (hm : R * C = n) : (setM R C y (z + 1) lo hi l c)[i]? = l[i]? := by
  unfold setM
  split
  · cases ho2 : cellM R C y 0 C (z + 1) with
    | none => rfl
    | some j =>
      have b1 := cellM_lt ho (by omega) (by omega) hm
      have b2 := cellM_lt ho2 (by omega) (by omega) hm
      simp only [putM]
      rw [List.getElem?_set_ne (by omega)]
  · rfl
theorem bsr0 {h : Heap} : abuildSlice prog h 23 0 #[] = some (.slice (some ⟨h.size, 0, none⟩) 0 1, h.new 21 []) := build0 underlying23 asz21
theorem bsr1 {h : Heap} {r : Int} : abuildSlice prog h 23 1 #[(0, .int .i32 r)] = some (.slice (some ⟨h.size, 0, none⟩) 1 2, h.new 21 [.int .i32 r]) := build1 underlying23 asz21 azero21 rfl rfl
theorem bc3 {b : Nat} {a : Int} : abuild prog 63 #[(0, .slice (some ⟨b, 0, none⟩) 1 2), (1, .int .i64 a), (2, .bool true)] = some (.agg #[.slice (some ⟨b, 0, none⟩) 1 2, .int .i64 a, .bool true]) := by simp [abuild, wt, aplaces, Instr.fill, Value.cells]
theorem bc2 {b : Nat} {a : Int} : abuild prog 63 #[(0, .slice (some ⟨b, 0, none⟩) 1 2), (1, .int .i64 a)] = some (.agg #[.slice (some ⟨b, 0, none⟩) 1 2, .int .i64 a, .bool false]) := by simp [abuild, wt, aplaces, Instr.fill, Value.cells]
theorem bc1 {a : Int} : abuild prog 63 #[(1, .int .i64 a)] = some (.agg #[.slice none 0 0, .int .i64 a, .bool false]) := by simp [abuild, wt, aplaces, Instr.fill, Value.cells]
theorem typed_ok {h : Heap} {gb kb f m : Nat} {R C y z lo hi ar : Int} {l : List Cel} {tv : Value} {xs : List Int} (S : GS h gb kb f R C l) (X : RdI prog h .i32 tv xs) (hx : xs.length + 1 ≤ m) (hm : m ≤ 1000000) (T : TxLe m l) :
    ACalls prog 49 #[pt gb, .int .i64 y, .int .i64 z, .int .i64 lo, .int .i64 hi, tv, .int .i64 ar] h (fun v h' => ∃ w l', v = .int .i64 w ∧ GS h' gb kb f R C l' ∧ l'.length = l.length ∧ TxLe m l' ∧ Ch (FR f h) h h') := by
  refine acalls_of_W' func49 rfl (by kernel_rfl) (by kernel_rfl) (by simp [ntmps49]) ?_
  intro H
  obtain ⟨c0, c1, c2⟩ := S.loads
  have M1 := imax_spec lo 0
  have M2 := imin_spec hi C
  simp only [wk, wt, wl, ↓reduceIte, Nat.reduceEqDiff, Nat.reduceAdd, Nat.zero_add, not_false_eq_true, not_true_eq_false]
  refine adraw_order [(0, false), (1, false), (2, false), (3, false), (4, false), (5, false), (6, false), (7, false), (8, false), (9, false)] mixed (by kernel_rfl) (by kernel_rfl) (by kernel_rfl) (by with_reducible repeat (first | exact PF_retK | refine PF_thenK ?_ | refine PF_blockK ?_)) ?_
  simp only [wk, wt, wl, ↓reduceIte, Nat.reduceEqDiff, Nat.reduceAdd, Nat.zero_add, not_false_eq_true, not_true_eq_false, dK_t, pt, c1, mxV, mnV]
  generalize imax lo 0 = lo' at *
  generalize imin hi C = hi' at *
  have hz0 : (IntKind.i64.wrap 0) = 0 := rfl
  refine W_loop (fun tm hh => tm 0 = pt gb ∧ tm 1 = .int .i64 y ∧ tm 3 = .int .i64 lo' ∧ tm 4 = .int .i64 hi' ∧ tm 5 = tv ∧ tm 6 = .int .i64 ar ∧ ∃ (k : Nat) (z' : Int) (last : Int) (l' : List Cel), tm 16 = .int .i64 (k : Int) ∧ tm 2 = .int .i64 z' ∧ tm 15 = .int .i64 last ∧ k ≤ xs.length ∧ GS hh gb kb f R C l' ∧ l'.length = l.length ∧ TxLe m l' ∧ Ch (FR f h) h hh ∧ LastOk l' last k)
    (fun tm _ => (xs.length - intOf (tm 16)).toNat) ⟨(by first | rfl | (simp only [wk, wt, wl, ↓reduceIte, Nat.reduceEqDiff, Nat.reduceAdd, Nat.zero_add, not_false_eq_true, not_true_eq_false]; done) | (simp only [wk, wt, wl, ↓reduceIte, Nat.reduceEqDiff, Nat.reduceAdd, Nat.zero_add, not_false_eq_true, not_true_eq_false]; rfl)), (by first | rfl | (simp only [wk, wt, wl, ↓reduceIte, Nat.reduceEqDiff, Nat.reduceAdd, Nat.zero_add, not_false_eq_true, not_true_eq_false]; done) | (simp only [wk, wt, wl, ↓reduceIte, Nat.reduceEqDiff, Nat.reduceAdd, Nat.zero_add, not_false_eq_true, not_true_eq_false]; rfl)), (by first | rfl | (simp only [wk, wt, wl, ↓reduceIte, Nat.reduceEqDiff, Nat.reduceAdd, Nat.zero_add, not_false_eq_true, not_true_eq_false]; done) | (simp only [wk, wt, wl, ↓reduceIte, Nat.reduceEqDiff, Nat.reduceAdd, Nat.zero_add, not_false_eq_true, not_true_eq_false]; rfl)), (by first | rfl | (simp only [wk, wt, wl, ↓reduceIte, Nat.reduceEqDiff, Nat.reduceAdd, Nat.zero_add, not_false_eq_true, not_true_eq_false]; done) | (simp only [wk, wt, wl, ↓reduceIte, Nat.reduceEqDiff, Nat.reduceAdd, Nat.zero_add, not_false_eq_true, not_true_eq_false]; rfl)), (by first | rfl | (simp only [wk, wt, wl, ↓reduceIte, Nat.reduceEqDiff, Nat.reduceAdd, Nat.zero_add, not_false_eq_true, not_true_eq_false]; done) | (simp only [wk, wt, wl, ↓reduceIte, Nat.reduceEqDiff, Nat.reduceAdd, Nat.zero_add, not_false_eq_true, not_true_eq_false]; rfl)), (by first | rfl | (simp only [wk, wt, wl, ↓reduceIte, Nat.reduceEqDiff, Nat.reduceAdd, Nat.zero_add, not_false_eq_true, not_true_eq_false]; done) | (simp only [wk, wt, wl, ↓reduceIte, Nat.reduceEqDiff, Nat.reduceAdd, Nat.zero_add, not_false_eq_true, not_true_eq_false]; rfl)), 0, z, -1, l, (by first | rfl | (simp only [wk, wt, wl, ↓reduceIte, Nat.reduceEqDiff, Nat.reduceAdd, Nat.zero_add, not_false_eq_true, not_true_eq_false]; done) | (simp only [wk, wt, wl, ↓reduceIte, Nat.reduceEqDiff, Nat.reduceAdd, Nat.zero_add, not_false_eq_true, not_true_eq_false]; rfl)), (by first | rfl | (simp only [wk, wt, wl, ↓reduceIte, Nat.reduceEqDiff, Nat.reduceAdd, Nat.zero_add, not_false_eq_true, not_true_eq_false]; done) | (simp only [wk, wt, wl, ↓reduceIte, Nat.reduceEqDiff, Nat.reduceAdd, Nat.zero_add, not_false_eq_true, not_true_eq_false]; rfl)), (by first | rfl | (simp only [wk, wt, wl, ↓reduceIte, Nat.reduceEqDiff, Nat.reduceAdd, Nat.zero_add, not_false_eq_true, not_true_eq_false]; done) | (simp only [wk, wt, wl, ↓reduceIte, Nat.reduceEqDiff, Nat.reduceAdd, Nat.zero_add, not_false_eq_true, not_true_eq_false]; rfl)), by omega, S, rfl, T, (Keeps.refl H).rg, .inl rfl⟩ ?_
  rintro tm hh ⟨t0, t1, t3, t4, t5, t6, k, z, last, l, t16, t2, t15, hk, S, hll, T, C1, hlast⟩
  have H1 := Ch.wf C1
  have Xh : RdI prog hh .i32 tv xs := Rd.chF X ‹GS h gb kb f R C _›.G.sz C1 (by decide)
  obtain ⟨c0, c1, c2⟩ := S.loads
  have hln := S.len
  have LX := Xh.ln (n := (xs.length : Int)) rfl
  simp only [wk, wt, wl, ↓reduceIte, Nat.reduceEqDiff, Nat.reduceAdd, Nat.zero_add, not_false_eq_true, not_true_eq_false, t0, t1, t3, t4, t5, t6, t16, t2, t15, LX]
  refine condK_dec (fun hd => ?_) (fun hd => ?_)
  rotate_left
  · simp only [wk, wt, wl, ↓reduceIte, Nat.reduceEqDiff, Nat.reduceAdd, Nat.zero_add, not_false_eq_true, not_true_eq_false, t2]
    exact ⟨_, l, rfl, S, hll, T, C1⟩
  obtain ⟨r, hr⟩ : ∃ r, xs[k]? = some r := ⟨_, List.getElem?_eq_getElem (by omega)⟩
  have wi : IntKind.i64.wrap ((k : Int) + 1) = ((k + 1 : Nat) : Int) := by rw [IntWalk.i64_in _ (by omega)]; omega
  simp only [wk, wt, wl, ↓reduceIte, Nat.reduceEqDiff, Nat.reduceAdd, Nat.zero_add, not_false_eq_true, not_true_eq_false, t0, t1, t3, t4, t5, t6, t16, t2, t15, (Xh.ix hr).1, (Xh.ix hr).2]
  refine refWidth_ok.use_pure ?_
  have hw := widthZ_range r
  by_cases w0 : widthZ r = 0
  · -- of no width
    have d0 : decide (widthZ r = 0) = true := decide_eq_true w0
    rcases hlast with rfl | ⟨i, c, rfl, hic, hct⟩
    · have dl : decide ((0 : Int) ≤ -1) = false := rfl
      have dl' : decide ((-1 : Int) ≥ 0) = false := rfl
      by_cases a1 : lo' ≤ z
      · have e1 := decide_eq_true a1
        by_cases a2 : z < hi'
        · have e2 := decide_eq_true a2
          simp only [wk, wt, wl, ↓reduceIte, Nat.reduceEqDiff, Nat.reduceAdd, Nat.zero_add, not_false_eq_true, not_true_eq_false, t0, t1, t3, t4, t5, t6, t16, t2, t15, e1, e2, d0, dl, dl', wi, intOf_int]
          exact ⟨⟨k + 1, z, -1, l, by simp, by simp, by simp, by omega, S, hll, T, C1, .inl rfl⟩, by omega⟩
        · have e2 := decide_eq_false a2
          simp only [wk, wt, wl, ↓reduceIte, Nat.reduceEqDiff, Nat.reduceAdd, Nat.zero_add, not_false_eq_true, not_true_eq_false, t0, t1, t3, t4, t5, t6, t16, t2, t15, e1, e2, d0, dl, dl', wi, intOf_int]
          exact ⟨⟨k + 1, z, -1, l, by simp, by simp, by simp, by omega, S, hll, T, C1, .inl rfl⟩, by omega⟩
      · have e1 := decide_eq_false a1
        simp only [wk, wt, wl, ↓reduceIte, Nat.reduceEqDiff, Nat.reduceAdd, Nat.zero_add, not_false_eq_true, not_true_eq_false, t0, t1, t3, t4, t5, t6, t16, t2, t15, e1, d0, dl, dl', wi, intOf_int]
        exact ⟨⟨k + 1, z, -1, l, by simp, by simp, by simp, by omega, S, hll, T, C1, .inl rfl⟩, by omega⟩
    · have hil := (List.getElem?_eq_some_iff.1 hic).1
      have dl : decide ((0 : Int) ≤ (i : Int)) = true := decide_eq_true (by omega)
      obtain ⟨xv, RT, lt⟩ := S.G.at hic
      have IC : aindexAddr prog 27 (cvF kb l.length) (.int .i64 (i : Int)) = some (.pointer (some ⟨kb, i * 3, none⟩)) := by have := CF.index (kb := kb) (n := l.length) (z := (i : Int)) (by omega) (by omega); rwa [Int.toNat_natCast] at this
      have hcm := T c (List.mem_of_getElem? hic)
      have fin : ∀ {h3 : Heap} {v3 : Value}, Keeps hh h3 → RdI prog h3 .i32 v3 (c.tx ++ [r]) → ∃ h4, storeV prog h3 23 (.pointer (some ⟨kb, i * 3, none⟩)) v3 = some (undef, h4) ∧ GS h4 gb kb f R C (l.set i { c with tx := c.tx ++ [r] }) ∧ Ch (FR f h) h h4 := fun {h3 v3} K3 R3 => by
        have S3 := S.keeps H1 K3
        obtain ⟨h4, es, G4, C4, z4⟩ := S3.G.text (Ch.wf K3) hic R3
        exact ⟨h4, es, S3.with (Ch.wf K3) C4 G4 (by simp), (C1.thenR K3.rg).thenR C4⟩
      have tx4 : TxLe m (l.set i { c with tx := c.tx ++ [r] }) := fun d hd => by
        rcases List.mem_or_eq_of_mem_set hd with hd | rfl
        · exact T d hd
        · simp only [List.length_append, List.length_singleton]; omega
      have la4 : LastOk (l.set i { c with tx := c.tx ++ [r] }) (i : Int) (k + 1) := .inr ⟨i, _, rfl, by rw [List.getElem?_set_self hil], by simp only [List.length_append, List.length_singleton]; omega⟩
      have hll4 : (l.set i { c with tx := c.tx ++ [r] }).length = l.length := by simp
      -- the three orders
      have hz0 : (hh.new 21 []).size = hh.size + 1 := rfl
      have hzx : (hh.new 21 [.int .i32 r]).size = hh.size + 1 := rfl
      have NA := Keeps.new H1 21 []
      have OA : Own prog hh.size (hh.new 21 []) 1 (.slice (some ⟨hh.size, 0, none⟩) 0 1) 0 [] := Own.new H1 (Nat.le_refl _) asz21 (by simp)
      obtain ⟨vA, hA, eA, OA2, KA, RA, bA, sA⟩ := grow2 H1 NA OA blk_new RT (by omega)
      have NA2 := Keeps.new (Ch.wf KA) 21 [.int .i32 r]
      have XA : Rd prog (hA.new 21 [.int .i32 r]) 1 (.slice (some ⟨hA.size, 0, none⟩) 1 2) 1 [.int .i32 r] := Rd.new (Ch.wf KA) asz21 rfl
      obtain ⟨wA, gA, fA, SA, KA3, RA3, cA⟩ := grow1 (KA.trans NA2) (OA2.keeps NA2) bA XA (by omega)
      obtain ⟨kA, stA, FA, DA⟩ := fin KA3 SA
      have NB := Keeps.new (Ch.wf NA) 21 [.int .i32 r]
      have XB : Rd prog ((hh.new 21 []).new 21 [.int .i32 r]) 1 (.slice (some ⟨hh.size + 1, 0, none⟩) 1 2) 1 [.int .i32 r] := Rd.new (Ch.wf NA) asz21 rfl
      obtain ⟨vB, hB, eB, OB2, KB, RB, bB, sB⟩ := grow2 H1 (NA.trans NB) (OA.keeps NB) blk_new RT (by omega)
      obtain ⟨wB, gB, fB, SB, KB3, RB3, cB⟩ := grow1 KB OB2 bB (XB.reads sB RB) (by omega)
      obtain ⟨kB, stB, FB, DB⟩ := fin KB3 SB
      have NC := Keeps.new H1 21 [.int .i32 r]
      have XC : Rd prog (hh.new 21 [.int .i32 r]) 1 (.slice (some ⟨hh.size, 0, none⟩) 1 2) 1 [.int .i32 r] := Rd.new H1 asz21 rfl
      have NC2 := Keeps.new (Ch.wf NC) 21 []
      have OC : Own prog hh.size ((hh.new 21 [.int .i32 r]).new 21 []) 1 (.slice (some ⟨hh.size + 1, 0, none⟩) 0 1) 0 [] := Own.new (Ch.wf NC) (by rw [hzx]; omega) asz21 (by simp)
      obtain ⟨vC, hC, eC, OC2, KC, RC, bC, sC⟩ := grow2 H1 (NC.trans NC2) OC (fun z hz => Nat.le_of_succ_le (blk_new z hz)) RT (by omega)
      obtain ⟨wC, gC, fC, SC, KC3, RC3, cC'⟩ := grow1 KC OC2 bC ((XC.keeps NC2).reads sC RC) (by omega)
      obtain ⟨kC, stC, FC, DC'⟩ := fin KC3 SC
      have ends : ∀ {h4 : Heap}, GS h4 gb kb f R C (l.set i { c with tx := c.tx ++ [r] }) → Ch (FR f h) h h4 → ∃ (k1 : Nat) (z' : Int) (last : Int) (l' : List Cel), Value.int .i64 ((k + 1 : Nat) : Int) = .int .i64 (k1 : Int) ∧ Value.int .i64 z = .int .i64 z' ∧ Value.int .i64 (i : Int) = .int .i64 last ∧ k1 ≤ xs.length ∧ GS h4 gb kb f R C l' ∧ l'.length = _ ∧ TxLe m l' ∧ Ch (FR f h) h h4 ∧ LastOk l' last k1 := fun {h4} F D => ⟨k + 1, z, i, _, rfl, rfl, rfl, by omega, F, hll4.trans hll, tx4, D, la4⟩
      by_cases a1 : lo' ≤ z
      · have e1 := decide_eq_true a1
        by_cases a2 : z < hi'
        · have e2 := decide_eq_true a2
          simp only [wk, wt, wl, ↓reduceIte, Nat.reduceEqDiff, Nat.reduceAdd, Nat.zero_add, not_false_eq_true, not_true_eq_false, t0, t1, t3, t4, t5, t6, t16, t2, t15, e1, e2, d0, dl]
          refine adraw_tree (.cons 0 false (.cons 1 false (.cons 2 false (.cons 3 false (.cons 4 false (.cons 6 false (.cons 7 false (.cons 8 false (.cons 9 false (.cons 10 false (.cons 11 false (.cons 12 false (.cons 13 false (.cons 15 false (.cons 16 false (.cons 17 false (.cons 18 false (.two 5 19 (.two 14 19 (.cons 19 true (.cons 20 true (.cons 21 false (.cons 22 false (.cons 23 false .nil))))) (.cons 14 true (.cons 20 true (.cons 21 false (.cons 22 false (.cons 23 false .nil)))))) (.cons 5 true (.cons 14 true (.cons 20 true (.cons 21 false (.cons 22 false (.cons 23 false .nil)))))))))))))))))))))))) mixed (by kernel_rfl) (by kernel_rfl) (by kernel_rfl) (by with_reducible repeat (first | exact PF_retK | refine PF_thenK ?_ | refine PF_blockK ?_)) ?_
          simp only [wk, wt, wl, ↓reduceIte, Nat.reduceEqDiff, Nat.reduceAdd, Nat.zero_add, not_false_eq_true, not_true_eq_false, TRo_nil, TRo_cons, TRo_two, trK_some, dK_t, t0, t1, t3, t4, t5, t6, t16, t2, t15, pt, c2, IC, Nat.add_zero, lt, (Xh.ix hr).1, (Xh.ix hr).2, bsr0, bsr1, hz0, hzx, eA, fA, stA, eB, fB, stB, eC, fC, stC, wi, intOf_int]
          exact ⟨⟨NA.reads H1, ⟨RA, NA2.reads (Ch.wf KA), RA3, ends FA DA, by omega⟩, NB.reads (Ch.wf NA), RB, RB3, ends FB DB, by omega⟩, NC.reads H1, NC2.reads (Ch.wf NC), RC, RC3, ends FC DC', by omega⟩
        · have e2 := decide_eq_false a2
          simp only [wk, wt, wl, ↓reduceIte, Nat.reduceEqDiff, Nat.reduceAdd, Nat.zero_add, not_false_eq_true, not_true_eq_false, t0, t1, t3, t4, t5, t6, t16, t2, t15, e1, e2, d0, dl]
          refine adraw_tree (.cons 0 false (.cons 1 false (.cons 2 false (.cons 3 false (.cons 4 false (.cons 6 false (.cons 7 false (.cons 8 false (.cons 9 false (.cons 10 false (.cons 11 false (.cons 12 false (.cons 13 false (.cons 15 false (.cons 16 false (.cons 17 false (.cons 18 false (.two 5 19 (.two 14 19 (.cons 19 true (.cons 20 true (.cons 21 false (.cons 22 false (.cons 23 false .nil))))) (.cons 14 true (.cons 20 true (.cons 21 false (.cons 22 false (.cons 23 false .nil)))))) (.cons 5 true (.cons 14 true (.cons 20 true (.cons 21 false (.cons 22 false (.cons 23 false .nil)))))))))))))))))))))))) mixed (by kernel_rfl) (by kernel_rfl) (by kernel_rfl) (by with_reducible repeat (first | exact PF_retK | refine PF_thenK ?_ | refine PF_blockK ?_)) ?_
          simp only [wk, wt, wl, ↓reduceIte, Nat.reduceEqDiff, Nat.reduceAdd, Nat.zero_add, not_false_eq_true, not_true_eq_false, TRo_nil, TRo_cons, TRo_two, trK_some, dK_t, t0, t1, t3, t4, t5, t6, t16, t2, t15, pt, c2, IC, Nat.add_zero, lt, (Xh.ix hr).1, (Xh.ix hr).2, bsr0, bsr1, hz0, hzx, eA, fA, stA, eB, fB, stB, eC, fC, stC, wi, intOf_int]
          exact ⟨⟨NA.reads H1, ⟨RA, NA2.reads (Ch.wf KA), RA3, ends FA DA, by omega⟩, NB.reads (Ch.wf NA), RB, RB3, ends FB DB, by omega⟩, NC.reads H1, NC2.reads (Ch.wf NC), RC, RC3, ends FC DC', by omega⟩
      · have e1 := decide_eq_false a1
        simp only [wk, wt, wl, ↓reduceIte, Nat.reduceEqDiff, Nat.reduceAdd, Nat.zero_add, not_false_eq_true, not_true_eq_false, t0, t1, t3, t4, t5, t6, t16, t2, t15, e1, d0, dl]
        refine adraw_tree (.cons 0 false (.cons 1 false (.cons 2 false (.cons 3 false (.cons 4 false (.cons 6 false (.cons 7 false (.cons 8 false (.cons 9 false (.cons 10 false (.cons 11 false (.cons 12 false (.cons 13 false (.cons 15 false (.cons 16 false (.cons 17 false (.cons 18 false (.two 5 19 (.two 14 19 (.cons 19 true (.cons 20 true (.cons 21 false (.cons 22 false (.cons 23 false .nil))))) (.cons 14 true (.cons 20 true (.cons 21 false (.cons 22 false (.cons 23 false .nil)))))) (.cons 5 true (.cons 14 true (.cons 20 true (.cons 21 false (.cons 22 false (.cons 23 false .nil)))))))))))))))))))))))) mixed (by kernel_rfl) (by kernel_rfl) (by kernel_rfl) (by with_reducible repeat (first | exact PF_retK | refine PF_thenK ?_ | refine PF_blockK ?_)) ?_
        simp only [wk, wt, wl, ↓reduceIte, Nat.reduceEqDiff, Nat.reduceAdd, Nat.zero_add, not_false_eq_true, not_true_eq_false, TRo_nil, TRo_cons, TRo_two, trK_some, dK_t, t0, t1, t3, t4, t5, t6, t16, t2, t15, pt, c2, IC, Nat.add_zero, lt, (Xh.ix hr).1, (Xh.ix hr).2, bsr0, bsr1, hz0, hzx, eA, fA, stA, eB, fB, stB, eC, fC, stC, wi, intOf_int]
        exact ⟨⟨NA.reads H1, ⟨RA, NA2.reads (Ch.wf KA), RA3, ends FA DA, by omega⟩, NB.reads (Ch.wf NA), RB, RB3, ends FB DB, by omega⟩, NC.reads H1, NC2.reads (Ch.wf NC), RC, RC3, ends FC DC', by omega⟩
  have d0 : decide (widthZ r = 0) = false := decide_eq_false w0
  have hC := S.i
  by_cases w2 : widthZ r = 2
  · have d2 : decide (widthZ r = 2) = true := decide_eq_true w2
    by_cases a1 : lo' ≤ z
    · have e1 := decide_eq_true a1
      by_cases a2 : z < hi'
      · have e2 := decide_eq_true a2
        have w1 : IntKind.i64.wrap (z + 1) = z + 1 := IntWalk.i64_in _ (by omega)
        by_cases a3 : z + 1 < hi'
        · have e3 := decide_eq_true a3
          have N1 := Keeps.new H1 21 [.int .i32 r]
          have T1 : RdI prog (hh.new 21 [.int .i32 r]) .i32 (.slice (some ⟨hh.size, 0, none⟩) 1 2) [r] := Rd.new H1 asz21 rfl
          simp only [wk, wt, wl, ↓reduceIte, Nat.reduceEqDiff, Nat.reduceAdd, Nat.zero_add, not_false_eq_true, not_true_eq_false, t0, t1, t3, t4, t5, t6, t16, t2, t15, e1, e2, e3, w1, d0, d2, (Xh.ix hr).1, (Xh.ix hr).2, bsr1, bc3]
          refine (set_ok (c := ⟨[r], ar, true⟩) (S.keeps H1 N1) T1).use ?_
          rintro _ h5 ⟨S5, C5⟩
          simp only [wk, wt, wl, ↓reduceIte, Nat.reduceEqDiff, Nat.reduceAdd, Nat.zero_add, not_false_eq_true, not_true_eq_false, t0, t1, t3, t4, t5, t6, t16, t2, t15, w1, bc1]
          refine (set_ok (c := ⟨[], ar, false⟩) S5 Rd.nil0).use ?_
          rintro _ h7 ⟨S7, C7⟩
          have L7 : (setM R C y (z + 1) lo' hi' (setM R C y z lo' hi' l ⟨[r], ar, true⟩) ⟨[], ar, false⟩).length = _ := setM_len.trans (setM_len.trans hll)
          have T7 := setM_tx (R := R) (C := C) (y := y) (z := z + 1) (lo := lo') (hi := hi') (c := ⟨[], ar, false⟩) (setM_tx (R := R) (C := C) (y := y) (z := z) (lo := lo') (hi := hi') (c := ⟨[r], ar, true⟩) T (by simp; omega)) (by simp)
          have D7 := C1.thenR ((N1.rg.thenR C5).thenR C7)
          -- the cell typed last
          simp only [wk, wt, wl, ↓reduceIte, Nat.reduceEqDiff, Nat.reduceAdd, Nat.zero_add, not_false_eq_true, not_true_eq_false, t0, t1, t3, t4, t5, t6, t16, t2, t15, e1]
          refine (at_ok S7).use_pure ?_
          simp only [wk, wt, wl, ↓reduceIte, Nat.reduceEqDiff, Nat.reduceAdd, Nat.zero_add, not_false_eq_true, not_true_eq_false, t0, t1, t3, t4, t5, t6, t16, t2, t15, wi, intOf_int]
          refine ⟨⟨k + 1, _, _, _, rfl, rfl, rfl, by omega, S7, L7, T7, D7, ?_⟩, by omega⟩
          cases ho : cellM R C y 0 C z with
          | none => exact .inl rfl
          | some i =>
            have hb := cellM_lt ho (by omega) (by omega) S7.i.2.2.2.2
            exact .inr ⟨i, _, rfl, by rw [setM_ne ho S.i.2.2.2.2]; exact setM_get ho a1 a2 (by have := L7; rw [setM_len, setM_len] at this; have := hb.1; rw [setM_len, setM_len] at this; omega), by simp⟩
        · have e3 := decide_eq_false a3
          simp only [wk, wt, wl, ↓reduceIte, Nat.reduceEqDiff, Nat.reduceAdd, Nat.zero_add, not_false_eq_true, not_true_eq_false, t0, t1, t3, t4, t5, t6, t16, t2, t15, e1, e2, e3, w1, d0, d2]
          refine (blankD_ok (a := ar)).use ?_
          rintro _ h4 ⟨tv4, rfl, R4, _, K4⟩
          simp only [wk, wt, wl, ↓reduceIte, Nat.reduceEqDiff, Nat.reduceAdd, Nat.zero_add, not_false_eq_true, not_true_eq_false, t0, t1, t3, t4, t5, t6, t16, t2, t15]
          refine (set_ok (c := bl ar) (S.keeps H1 K4) R4).use ?_
          rintro _ h5 ⟨S5, C5⟩
          simp only [wk, wt, wl, ↓reduceIte, Nat.reduceEqDiff, Nat.reduceAdd, Nat.zero_add, not_false_eq_true, not_true_eq_false, t0, t1, t3, t4, t5, t6, t16, t2, t15]
          refine (blankD_ok (a := ar)).use ?_
          rintro _ h6 ⟨tv6, rfl, R6, _, K6⟩
          simp only [wk, wt, wl, ↓reduceIte, Nat.reduceEqDiff, Nat.reduceAdd, Nat.zero_add, not_false_eq_true, not_true_eq_false, t0, t1, t3, t4, t5, t6, t16, t2, t15]
          refine (set_ok (c := bl ar) (S5.keeps (Ch.wf C5) K6) R6).use ?_
          rintro _ h7 ⟨S7, C7⟩
          simp only [wk, wt, wl, ↓reduceIte, Nat.reduceEqDiff, Nat.reduceAdd, Nat.zero_add, not_false_eq_true, not_true_eq_false, t0, t1, t3, t4, t5, t6, t16, t2, t15, wi, intOf_int]
          exact ⟨⟨k + 1, _, -1, _, rfl, rfl, rfl, by omega, S7, setM_len.trans (setM_len.trans hll), setM_tx (setM_tx T (by simp [bl]; omega)) (by simp [bl]; omega), C1.thenR ((K4.rg.thenR C5).thenR (K6.rg.thenR C7)), .inl rfl⟩, by omega⟩
      · have e2 := decide_eq_false a2
        simp only [wk, wt, wl, ↓reduceIte, Nat.reduceEqDiff, Nat.reduceAdd, Nat.zero_add, not_false_eq_true, not_true_eq_false, t0, t1, t3, t4, t5, t6, t16, t2, t15, e1, e2, d0, d2]
        refine (blankD_ok (a := ar)).use ?_
        rintro _ h4 ⟨tv4, rfl, R4, _, K4⟩
        simp only [wk, wt, wl, ↓reduceIte, Nat.reduceEqDiff, Nat.reduceAdd, Nat.zero_add, not_false_eq_true, not_true_eq_false, t0, t1, t3, t4, t5, t6, t16, t2, t15]
        refine (set_ok (c := bl ar) (S.keeps H1 K4) R4).use ?_
        rintro _ h5 ⟨S5, C5⟩
        simp only [wk, wt, wl, ↓reduceIte, Nat.reduceEqDiff, Nat.reduceAdd, Nat.zero_add, not_false_eq_true, not_true_eq_false, t0, t1, t3, t4, t5, t6, t16, t2, t15]
        refine (blankD_ok (a := ar)).use ?_
        rintro _ h6 ⟨tv6, rfl, R6, _, K6⟩
        simp only [wk, wt, wl, ↓reduceIte, Nat.reduceEqDiff, Nat.reduceAdd, Nat.zero_add, not_false_eq_true, not_true_eq_false, t0, t1, t3, t4, t5, t6, t16, t2, t15]
        refine (set_ok (c := bl ar) (S5.keeps (Ch.wf C5) K6) R6).use ?_
        rintro _ h7 ⟨S7, C7⟩
        simp only [wk, wt, wl, ↓reduceIte, Nat.reduceEqDiff, Nat.reduceAdd, Nat.zero_add, not_false_eq_true, not_true_eq_false, t0, t1, t3, t4, t5, t6, t16, t2, t15, wi, intOf_int]
        exact ⟨⟨k + 1, _, -1, _, rfl, rfl, rfl, by omega, S7, setM_len.trans (setM_len.trans hll), setM_tx (setM_tx T (by simp [bl]; omega)) (by simp [bl]; omega), C1.thenR ((K4.rg.thenR C5).thenR (K6.rg.thenR C7)), .inl rfl⟩, by omega⟩
    · have e1 := decide_eq_false a1
      simp only [wk, wt, wl, ↓reduceIte, Nat.reduceEqDiff, Nat.reduceAdd, Nat.zero_add, not_false_eq_true, not_true_eq_false, t0, t1, t3, t4, t5, t6, t16, t2, t15, e1, d0, d2]
      refine (blankD_ok (a := ar)).use ?_
      rintro _ h4 ⟨tv4, rfl, R4, _, K4⟩
      simp only [wk, wt, wl, ↓reduceIte, Nat.reduceEqDiff, Nat.reduceAdd, Nat.zero_add, not_false_eq_true, not_true_eq_false, t0, t1, t3, t4, t5, t6, t16, t2, t15]
      refine (set_ok (c := bl ar) (S.keeps H1 K4) R4).use ?_
      rintro _ h5 ⟨S5, C5⟩
      simp only [wk, wt, wl, ↓reduceIte, Nat.reduceEqDiff, Nat.reduceAdd, Nat.zero_add, not_false_eq_true, not_true_eq_false, t0, t1, t3, t4, t5, t6, t16, t2, t15]
      refine (blankD_ok (a := ar)).use ?_
      rintro _ h6 ⟨tv6, rfl, R6, _, K6⟩
      simp only [wk, wt, wl, ↓reduceIte, Nat.reduceEqDiff, Nat.reduceAdd, Nat.zero_add, not_false_eq_true, not_true_eq_false, t0, t1, t3, t4, t5, t6, t16, t2, t15]
      refine (set_ok (c := bl ar) (S5.keeps (Ch.wf C5) K6) R6).use ?_
      rintro _ h7 ⟨S7, C7⟩
      simp only [wk, wt, wl, ↓reduceIte, Nat.reduceEqDiff, Nat.reduceAdd, Nat.zero_add, not_false_eq_true, not_true_eq_false, t0, t1, t3, t4, t5, t6, t16, t2, t15, wi, intOf_int]
      exact ⟨⟨k + 1, _, -1, _, rfl, rfl, rfl, by omega, S7, setM_len.trans (setM_len.trans hll), setM_tx (setM_tx T (by simp [bl]; omega)) (by simp [bl]; omega), C1.thenR ((K4.rg.thenR C5).thenR (K6.rg.thenR C7)), .inl rfl⟩, by omega⟩
  · have d2 : decide (widthZ r = 2) = false := decide_eq_false w2
    by_cases a1 : lo' ≤ z
    · have e1 := decide_eq_true a1
      by_cases a2 : z < hi'
      · have e2 := decide_eq_true a2
        have N1 := Keeps.new H1 21 [.int .i32 r]
        have T1 : RdI prog (hh.new 21 [.int .i32 r]) .i32 (.slice (some ⟨hh.size, 0, none⟩) 1 2) [r] := Rd.new H1 asz21 rfl
        simp only [wk, wt, wl, ↓reduceIte, Nat.reduceEqDiff, Nat.reduceAdd, Nat.zero_add, not_false_eq_true, not_true_eq_false, t0, t1, t3, t4, t5, t6, t16, t2, t15, e1, e2, d0, d2, (Xh.ix hr).1, (Xh.ix hr).2, bsr1, bc2]
        refine (set_ok (c := ⟨[r], ar, false⟩) (S.keeps H1 N1) T1).use ?_
        rintro _ h5 ⟨S5, C5⟩
        have D5 := C1.thenR (N1.rg.thenR C5)
        have L5 : (setM R C y z lo' hi' l ⟨[r], ar, false⟩).length = _ := setM_len.trans hll
        have T5 := setM_tx (R := R) (C := C) (y := y) (z := z) (lo := lo') (hi := hi') (c := ⟨[r], ar, false⟩) T (by simp; omega)
        -- the cell typed last
        simp only [wk, wt, wl, ↓reduceIte, Nat.reduceEqDiff, Nat.reduceAdd, Nat.zero_add, not_false_eq_true, not_true_eq_false, t0, t1, t3, t4, t5, t6, t16, t2, t15, e1]
        refine (at_ok S5).use_pure ?_
        simp only [wk, wt, wl, ↓reduceIte, Nat.reduceEqDiff, Nat.reduceAdd, Nat.zero_add, not_false_eq_true, not_true_eq_false, t0, t1, t3, t4, t5, t6, t16, t2, t15, wi, intOf_int]
        refine ⟨⟨k + 1, _, _, _, rfl, rfl, rfl, by omega, S5, L5, T5, D5, ?_⟩, by omega⟩
        cases ho : cellM R C y 0 C z with
        | none => exact .inl rfl
        | some i =>
          have hb := cellM_lt ho (by omega) (by omega) S5.i.2.2.2.2
          exact .inr ⟨i, _, rfl, setM_get ho a1 a2 (by have := hb.1; rw [setM_len] at this; exact this), by simp⟩
      · have e2 := decide_eq_false a2
        have N1 := Keeps.new H1 21 [.int .i32 r]
        have T1 : RdI prog (hh.new 21 [.int .i32 r]) .i32 (.slice (some ⟨hh.size, 0, none⟩) 1 2) [r] := Rd.new H1 asz21 rfl
        simp only [wk, wt, wl, ↓reduceIte, Nat.reduceEqDiff, Nat.reduceAdd, Nat.zero_add, not_false_eq_true, not_true_eq_false, t0, t1, t3, t4, t5, t6, t16, t2, t15, e1, e2, d0, d2, (Xh.ix hr).1, (Xh.ix hr).2, bsr1, bc2]
        refine (set_ok (c := ⟨[r], ar, false⟩) (S.keeps H1 N1) T1).use ?_
        rintro _ h5 ⟨S5, C5⟩
        have D5 := C1.thenR (N1.rg.thenR C5)
        have L5 : (setM R C y z lo' hi' l ⟨[r], ar, false⟩).length = _ := setM_len.trans hll
        have T5 := setM_tx (R := R) (C := C) (y := y) (z := z) (lo := lo') (hi := hi') (c := ⟨[r], ar, false⟩) T (by simp; omega)
        simp only [wk, wt, wl, ↓reduceIte, Nat.reduceEqDiff, Nat.reduceAdd, Nat.zero_add, not_false_eq_true, not_true_eq_false, t0, t1, t3, t4, t5, t6, t16, t2, t15, wi, intOf_int]
        exact ⟨⟨k + 1, _, -1, _, rfl, rfl, rfl, by omega, S5, L5, T5, D5, .inl rfl⟩, by omega⟩
    · have e1 := decide_eq_false a1
      have N1 := Keeps.new H1 21 [.int .i32 r]
      have T1 : RdI prog (hh.new 21 [.int .i32 r]) .i32 (.slice (some ⟨hh.size, 0, none⟩) 1 2) [r] := Rd.new H1 asz21 rfl
      simp only [wk, wt, wl, ↓reduceIte, Nat.reduceEqDiff, Nat.reduceAdd, Nat.zero_add, not_false_eq_true, not_true_eq_false, t0, t1, t3, t4, t5, t6, t16, t2, t15, e1, d0, d2, (Xh.ix hr).1, (Xh.ix hr).2, bsr1, bc2]
      refine (set_ok (c := ⟨[r], ar, false⟩) (S.keeps H1 N1) T1).use ?_
      rintro _ h5 ⟨S5, C5⟩
      have D5 := C1.thenR (N1.rg.thenR C5)
      have L5 : (setM R C y z lo' hi' l ⟨[r], ar, false⟩).length = _ := setM_len.trans hll
      have T5 := setM_tx (R := R) (C := C) (y := y) (z := z) (lo := lo') (hi := hi') (c := ⟨[r], ar, false⟩) T (by simp; omega)
      simp only [wk, wt, wl, ↓reduceIte, Nat.reduceEqDiff, Nat.reduceAdd, Nat.zero_add, not_false_eq_true, not_true_eq_false, t0, t1, t3, t4, t5, t6, t16, t2, t15, wi, intOf_int]
      exact ⟨⟨k + 1, _, -1, _, rfl, rfl, rfl, by omega, S5, L5, T5, D5, .inl rfl⟩, by omega⟩
end Go.Proofs.YtcgajolmjjeibaaDoor.Am
end
