/- The texts of this seat, one behind another (part 13 of 25): the frame (an abstract machine), the contracts of functions, the laws. -/
import Derived.Test.YthmpaddhmgnkbaaDoorZ12
import Derived.Test.YthmpaddhmgnkbaaDoorZ10
section
/- Right grids: contracts of the document's letters and Right, by walks. -/
set_option linter.unusedSimpArgs false
set_option linter.unusedVariables false
set_option maxHeartbeats 4000000
set_option maxRecDepth 20000
namespace Go.Proofs.YthmpaddhmgnkbaaDoor.Am
open Go Go.RowKit Go.Proofs.Tryd
end Go.Proofs.YthmpaddhmgnkbaaDoor.Am
end
section
/- A terminal in plain terms: its cells stay right, whatever is written; no program in sight. -/
set_option linter.unusedSimpArgs false
set_option linter.unusedVariables false
set_option maxHeartbeats 4000000
namespace Go.Proofs.YthmpaddhmgnkbaaDoor.Am
open Go Go.RowKit Go.Proofs.Tryd
end Go.Proofs.YthmpaddhmgnkbaaDoor.Am
end
section
/- The program's terminal: it stays as it is while another thing changes; its steps for laws. -/
set_option linter.unusedSimpArgs false
set_option linter.unusedVariables false
set_option maxHeartbeats 4000000
set_option maxRecDepth 20000
namespace Go.Proofs.YthmpaddhmgnkbaaDoor.Am
open Go Go.RowKit Go.Proofs.Tryd
/-- Families, as they were at a size, and all from another on. -/
def Nar (Fs : Nat → Prop) (a b n : Nat) : Prop := Fs n ∧ n < a ∨ b ≤ n
section
variable {h0 h h' : Heap} {Fs Gs Ms : Nat → Prop} {gs : List (Value × List Int)} {t f : Nat} {nv cv sv rv : Value} {gr : Bool} {X : TX} {ps : List PC}
theorem apartH (H : Wf h) (hd : ∀ n, n < h.size → Fs n → ¬ Gs n) {v : Value} (F : Fam h Fs v) (hlt : ∀ z, blkOf v = some z → z < h.size) : ∀ z, blkOf v = some z → ¬ Rg Gs h z := fun z hz ⟨k, g, f⟩ =>
  hd k.fam (by have := H.2 z k g; have := hlt z hz; omega) (F z k hz g) f
end
end Go.Proofs.YthmpaddhmgnkbaaDoor.Am
end
section
/- The document's Encode makes its bytes anew; the examples hold: contract of awake, by walks. -/
set_option linter.unusedSimpArgs false
set_option linter.unusedVariables false
set_option maxHeartbeats 4000000
set_option maxRecDepth 20000
namespace Go.Proofs.YthmpaddhmgnkbaaDoor.Am
open Go Go.RowKit Go.Proofs.Tryd
/-- A local grid. -/
theorem putGrid {h : Heap} (H : Wf h) {r c y x : Int} {v : Value} (o : one v = true) : ∃ h', storeV prog (h.new 24 [.int .i64 0, .int .i64 0, .slice none 0 0, .int .i64 0, .int .i64 0]) 24 (.pointer (some ⟨h.size, 0, none⟩)) (.agg #[.int .i64 r, .int .i64 c, v, .int .i64 y, .int .i64 x]) = some (undef, h') ∧
    Var h' h.size [.int .i64 r, .int .i64 c, v, .int .i64 y, .int .i64 x] ∧ Keeps h h' ∧ h.size < h'.size := by
  have N1 := Keeps.new H 24 [.int .i64 0, .int .i64 0, .slice none 0 0, .int .i64 0, .int .i64 0]
  have V1 := Var.new (e := 24) H (cs := [.int .i64 0, .int .i64 0, .slice none 0 0, .int .i64 0, .int .i64 0])
  obtain ⟨h2, e2, V2, C2, z2⟩ := V1.store (P := prog) (t := 24) (v := .agg #[.int .i64 r, .int .i64 c, v, .int .i64 y, .int .i64 x]) (i := 0) (Ch.wf N1) asz24 (by simp [Value.cells, one_cells o]) (by simp [Value.cells, one_cells o, o, one_int])
  have hcs : (Value.agg #[.int .i64 r, .int .i64 c, v, .int .i64 y, .int .i64 x]).cells.toList = [.int .i64 r, .int .i64 c, v, .int .i64 y, .int .i64 x] := by simp [Value.cells, one_cells o]
  rw [hcs, over_all (xs := [.int .i64 0, .int .i64 0, .slice none 0 0, .int .i64 0, .int .i64 0]) (vs := [.int .i64 r, .int .i64 c, v, .int .i64 y, .int .i64 x]) rfl] at V2
  exact ⟨h2, e2, V2, N1.step C2 fun y e => by omega, by have : (h.new 24 [.int .i64 0, .int .i64 0, .slice none 0 0, .int .i64 0, .int .i64 0]).size = h.size + 1 := rfl; omega⟩
end Go.Proofs.YthmpaddhmgnkbaaDoor.Am
end
section
/- TermRight, TermClears, TermPieces and TermNone, told of abstract memory: they answer true. -/
set_option linter.unusedSimpArgs false
set_option linter.unusedVariables false
set_option maxHeartbeats 4000000
set_option maxRecDepth 20000
namespace Go.Proofs.YthmpaddhmgnkbaaDoor.Am
open Go Go.RowKit Go.Proofs.Tryd
end Go.Proofs.YthmpaddhmgnkbaaDoor.Am
end
section
/- The document's terminal as it lies in memory, step by step. -/
set_option linter.unusedSimpArgs false
set_option linter.unusedVariables false
set_option maxHeartbeats 4000000
set_option maxRecDepth 20000
namespace Go.Proofs.YthmpaddhmgnkbaaDoor.Am
open Go Go.RowKit Go.Proofs.Tryd
def lastZ : Option Nat → Int
  | none => -1
  | some i => (i : Int)
def dF (X : TX) (cv sv rv : Value) : List Value := [.int .i64 X.rows, .int .i64 X.cols, cv, .int .i64 X.row, .int .i64 X.col, .int .i64 X.attr, .bool X.hid, .int .i64 (lastZ X.last), .int .i64 (X.st : Int), sv, rv]
def MM (C S R : Nat → Prop) (x n : Nat) : Prop := C n ∨ S n ∨ R n ∨ n = x
/-- The document's terminal: block x; its cells cv (of the families C), its sequence sv (of S), its held bytes rv (of R). -/
structure DX (h : Heap) (Fs : Nat → Prop) (x : Nat) (X : TX) (cv sv rv : Value) (ps : List PC) (C S R : Nat → Prop) : Prop where
  var : Var h x (dF X cv sv rv)
  gp : GP h Fs (MM C S R x) cv X.cells ps
  so : OwnR prog h 1 sv X.seq.length (X.seq.map (Value.int .u8))
  ro : OwnR prog h 1 rv X.held.length (X.held.map (Value.int .u8))
  fc : Fam h C cv
  fs : Fam h S sv
  fr : Fam h R rv
  cs : ∀ n, C n → ¬ S n
  cr : ∀ n, C n → ¬ R n
  sr : ∀ n, S n → ¬ R n
  cx : ¬ C x
  sx : ¬ S x
  rx : ¬ R x
  ml : ∀ n, MM C S R x n → n < h.size
  mF : ∀ n, MM C S R x n → Fs n
  up : ∀ n, h.size ≤ n → Fs n
section
variable {h h' h1 : Heap} {Fs Gs A B D : Nat → Prop} {x f0 : Nat} {X X' : TX} {v cv sv rv cv' sv' rv' tv : Value} {ps ps' : List PC} {C S R : Nat → Prop} {l : List Cel} {s n : Nat} {cs : List Value}
theorem keepRow (O : OwnR prog h s v n cs) (F : Fam h A v) (K : Ch (Rg B h) h h') (hd : ∀ n, A n → ¬ B n) : OwnR prog h' s v n cs ∧ Fam h' A v :=
  ⟨Ch.ownR K O (F.apart hd), F.ch K fun z hz => (O.1.blk_lt hz).1⟩
theorem keepVar (H : Wf h) (V : Var h x cs) (K : Ch (Rg B h) h h') (hx : ¬ B x) : Var h' x cs := Ch.var H K V (V.apart hx)
theorem DX.clt (Q : DX h Fs x X cv sv rv ps C S R) : ∀ y, blkOf cv = some y → y < h.size := Q.gp.lt
theorem DX.slt (Q : DX h Fs x X cv sv rv ps C S R) : ∀ y, blkOf sv = some y → y < h.size := fun y hy => (Q.so.1.blk_lt hy).1
theorem DX.rlt (Q : DX h Fs x X cv sv rv ps C S R) : ∀ y, blkOf rv = some y → y < h.size := fun y hy => (Q.ro.1.blk_lt hy).1
theorem DX.xl (Q : DX h Fs x X cv sv rv ps C S R) : x < h.size := Q.ml x (.inr (.inr (.inr rfl)))
theorem Ch.varRg (V : Var h x cs) (K : Ch (fun y => y = x) h h') : Ch (Rg (fun n => n = x) h) h h' := K.mono fun y e => by subst e; exact V.rg rfl
theorem DX.dirt (Q : DX h Fs x X cv sv rv ps C S R) (K : Ch (Rg B h) h h') (hB : ∀ n, B n → MM C S R x n) : Ch (Rg Fs h) h h' := K.mono fun y r => r.mono fun n hn => Q.mF n (hB n hn)
/-- A field of its own was written. -/
theorem DX.own (Q : DX h Fs x X cv sv rv ps C S R) (H : Wf h) (K0 : Ch (fun y => y = x) h h') (V : Var h' x (dF X' cv sv rv)) (e1 : X'.cells = X.cells) (e2 : X'.held = X.held) (e3 : X'.seq = X.seq) : DX h' Fs x X' cv sv rv ps C S R ∧ Ch (Rg Fs h) h h' := by
  have K := Ch.varRg Q.var K0
  have hle := Ch.le K
  obtain ⟨s1, s2⟩ := keepRow Q.so Q.fs K fun n a b => Q.sx (by rw [← b]; exact a)
  obtain ⟨r1, r2⟩ := keepRow Q.ro Q.fr K fun n a b => Q.rx (by rw [← b]; exact a)
  refine ⟨⟨V, by rw [e1]; exact Q.gp.ch K (fun y r => r.mono fun n e => .inr (.inr (.inr e))) (Q.fc.apart fun n a b => Q.cx (by rw [← b]; exact a)), by rw [e3]; exact s1, by rw [e2]; exact r1, Q.fc.ch K Q.clt, s2, r2, Q.cs, Q.cr, Q.sr, Q.cx, Q.sx, Q.rx, fun n hn => Nat.lt_of_lt_of_le (Q.ml n hn) hle, Q.mF, fun n hn => Q.up n (by omega)⟩, Q.dirt K fun n e => .inr (.inr (.inr e))⟩
theorem DX.keeps (Q : DX h Fs x X cv sv rv ps C S R) (H : Wf h) (K : Keeps h h') : DX h' Fs x X cv sv rv ps C S R :=
  ⟨Keeps.var H K Q.var, Q.gp.keeps K, Q.so.keeps K, Q.ro.keeps K, Q.fc.ch K Q.clt, Q.fs.ch K Q.slt, Q.fr.ch K Q.rlt, Q.cs, Q.cr, Q.sr, Q.cx, Q.sx, Q.rx, fun n hn => Nat.lt_of_lt_of_le (Q.ml n hn) (Ch.le K), Q.mF, fun n hn => Q.up n (Nat.le_trans (Ch.le K) hn)⟩
/-- Cells were written. -/
theorem DX.cells (Q : DX h Fs x X cv sv rv ps C S R) (H : Wf h) (K0 : Ch (FamV h cv) h h') (G : GP h' Fs (MM C S R x) cv l ps') : DX h' Fs x { X with cells := l } cv sv rv ps' C S R ∧ Ch (Rg Fs h) h h' := by
  have K : Ch (Rg C h) h h' := K0.mono fun y d => FamV.rg Q.fc d
  have hle := Ch.le K
  obtain ⟨s1, s2⟩ := keepRow Q.so Q.fs K fun n a b => Q.cs n b a
  obtain ⟨r1, r2⟩ := keepRow Q.ro Q.fr K fun n a b => Q.cr n b a
  exact ⟨⟨keepVar H Q.var K Q.cx, G, s1, r1, Q.fc.ch K Q.clt, s2, r2, Q.cs, Q.cr, Q.sr, Q.cx, Q.sx, Q.rx, fun n hn => Nat.lt_of_lt_of_le (Q.ml n hn) hle, Q.mF, fun n hn => Q.up n (by omega)⟩, Q.dirt K fun n e => .inl e⟩
/-- A new row is none of the written memory. -/
theorem DX.fresh (Q : DX h Fs x X cv sv rv ps C S R) (K : Keeps h h') (hz : ∀ z, blkOf tv = some z → h.size ≤ z) : Fam h' (Off Fs (MM C S R x)) tv :=
  (Fam.freshK K hz).mono fun n hn => ⟨Q.up n hn.1, fun m => by have := Q.ml n m; omega⟩
/-- The families of a row that was grown, or of another one. -/
theorem grownFam (Q : DX h Fs x X cv sv rv ps C S R) (K : Ch (Rg (fun n => A n ∨ n = x) h) h h') (V : Var h' x cs) (hb : ∀ z, blkOf tv = some z → h.size ≤ z ∨ blkOf v = some z) (F : Fam h A v) (hlt : ∀ z, blkOf v = some z → z < h.size) : Fam h' (fun n => A n ∨ h.size ≤ n ∧ n < h'.size) tv := fun z k hz g => by
  rcases hb z hz with h1 | h1
  · have hle := (Ch.wf K).2 z k g
    have hlt2 := (Ch.wf K).lt g
    rcases K.2.2.2.1 z k h1 g with h2 | ⟨y, k0, ⟨k1, g1, f1⟩, g0, e⟩
    · exact .inr ⟨h2, by omega⟩
    · rw [g0] at g1; cases g1
      rcases f1 with f1 | f1
      · exact .inl (by rw [e]; exact f1)
      · obtain ⟨kx, gx, _, _, _, _, alone⟩ := V
        exact absurd (e.trans f1) (alone z k (by have := Q.xl; omega) g)
  · obtain ⟨k0, g0, e⟩ := K.2.2.2.2.1 z k (hlt z h1) g
    exact .inl (by rw [e]; exact F z k0 h1 g0)
/-- Its sequence is another row. -/
theorem DX.seqN (Q : DX h Fs x X cv sv rv ps C S R) (H : Wf h) (K : Ch (Rg (fun n => S n ∨ n = x) h) h h') (V : Var h' x (dF X' cv sv' rv)) (O : OwnR prog h' 1 sv' X'.seq.length (X'.seq.map (Value.int .u8))) (hb : ∀ z, blkOf sv' = some z → h.size ≤ z ∨ blkOf sv = some z) (e1 : X'.cells = X.cells) (e2 : X'.held = X.held) :
    (∃ S', DX h' Fs x X' cv sv' rv ps C S' R) ∧ Ch (Rg Fs h) h h' := by
  have hle := Ch.le K
  have F := grownFam Q K V hb Q.fs Q.slt
  obtain ⟨r1, r2⟩ := keepRow Q.ro Q.fr K fun n a b => b.elim (fun b => Q.sr n b a) fun b => Q.rx (by rw [← b]; exact a)
  have hm : ∀ n, MM C (fun n => S n ∨ h.size ≤ n ∧ n < h'.size) R x n → MM C S R x n ∨ h.size ≤ n ∧ n < h'.size := fun n m => by
    rcases m with m | (m | m) | m | m
    · exact .inl (.inl m)
    · exact .inl (.inr (.inl m))
    · exact .inr m
    · exact .inl (.inr (.inr (.inl m)))
    · exact .inl (.inr (.inr (.inr m)))
  have G1 := Q.gp.more (Ms' := MM C (fun n => S n ∨ h.size ≤ n ∧ n < h'.size) R x) H fun n hn m => (hm n m).resolve_right fun m => by omega
  have G2 := G1.ch K (fun y r => r.mono fun n b => b.elim (fun b => .inr (.inl (.inl b))) fun b => .inr (.inr (.inr b))) (Q.fc.apart fun n a b => b.elim (fun b => Q.cs n a b) fun b => Q.cx (by rw [← b]; exact a))
  refine ⟨⟨_, V, by rw [e1]; exact G2, O, by rw [e2]; exact r1, Q.fc.ch K Q.clt, F, r2, fun n c s => s.elim (Q.cs n c) fun s => ?_, Q.cr, fun n s r => s.elim (fun s => Q.sr n s r) fun s => ?_, Q.cx, fun s => s.elim Q.sx fun s => ?_, Q.rx, fun n m => ?_, fun n m => ?_, fun n hn => Q.up n (by omega)⟩, Q.dirt K fun n b => b.elim (fun b => .inr (.inl b)) fun b => .inr (.inr (.inr b))⟩
  · have := Q.ml n (.inl c); omega
  · have := Q.ml n (.inr (.inr (.inl r))); omega
  · have := Q.xl; omega
  · rcases hm n m with m | m
    · have := Q.ml n m; omega
    · exact m.2
  · rcases hm n m with m | m
    · exact Q.mF n m
    · exact Q.up n m.1
/-- Its held bytes are another row. -/
theorem DX.heldN (Q : DX h Fs x X cv sv rv ps C S R) (H : Wf h) (K : Ch (Rg (fun n => R n ∨ n = x) h) h h') (V : Var h' x (dF X' cv sv rv')) (O : OwnR prog h' 1 rv' X'.held.length (X'.held.map (Value.int .u8))) (hb : ∀ z, blkOf rv' = some z → h.size ≤ z ∨ blkOf rv = some z) (e1 : X'.cells = X.cells) (e3 : X'.seq = X.seq) :
    (∃ R', DX h' Fs x X' cv sv rv' ps C S R') ∧ Ch (Rg Fs h) h h' := by
  have hle := Ch.le K
  have F := grownFam Q K V hb Q.fr Q.rlt
  obtain ⟨r1, r2⟩ := keepRow Q.so Q.fs K fun n a b => b.elim (fun b => Q.sr n a b) fun b => Q.sx (by rw [← b]; exact a)
  have hm : ∀ n, MM C S (fun n => R n ∨ h.size ≤ n ∧ n < h'.size) x n → MM C S R x n ∨ h.size ≤ n ∧ n < h'.size := fun n m => by
    rcases m with m | m | (m | m) | m
    · exact .inl (.inl m)
    · exact .inl (.inr (.inl m))
    · exact .inl (.inr (.inr (.inl m)))
    · exact .inr m
    · exact .inl (.inr (.inr (.inr m)))
  have G1 := Q.gp.more (Ms' := MM C S (fun n => R n ∨ h.size ≤ n ∧ n < h'.size) x) H fun n hn m => (hm n m).resolve_right fun m => by omega
  have G2 := G1.ch K (fun y r => r.mono fun n b => b.elim (fun b => .inr (.inr (.inl (.inl b)))) fun b => .inr (.inr (.inr b))) (Q.fc.apart fun n a b => b.elim (fun b => Q.cr n a b) fun b => Q.cx (by rw [← b]; exact a))
  refine ⟨⟨_, V, by rw [e1]; exact G2, by rw [e3]; exact r1, O, Q.fc.ch K Q.clt, r2, F, Q.cs, fun n c s => s.elim (Q.cr n c) fun s => ?_, fun n s r => r.elim (fun r => Q.sr n s r) fun r => ?_, Q.cx, Q.sx, fun s => s.elim Q.rx fun s => ?_, fun n m => ?_, fun n m => ?_, fun n hn => Q.up n (by omega)⟩, Q.dirt K fun n b => b.elim (fun b => .inr (.inr (.inl b))) fun b => .inr (.inr (.inr b))⟩
  · have := Q.ml n (.inl c); omega
  · have := Q.ml n (.inr (.inl s)); omega
  · have := Q.xl; omega
  · rcases hm n m with m | m
    · have := Q.ml n m; omega
    · exact m.2
  · rcases hm n m with m | m
    · exact Q.mF n m
    · exact Q.up n m.1
/-- It has other cells. -/
theorem DX.regrid (Q : DX h Fs x X cv sv rv ps C S R) (H : Wf h) (K1 : Keeps h h1) (G : GP h1 (fun n => h.size ≤ n) (fun n => n = f0) cv' l ps') (F : Fam h1 (fun n => n = f0) cv') (hf : h.size ≤ f0 ∧ f0 < h1.size) (K0 : Ch (fun y => y = x) h1 h') (V : Var h' x (dF X' cv' sv rv)) (e1 : X'.cells = l) (e2 : X'.held = X.held) (e3 : X'.seq = X.seq) :
    DX h' Fs x X' cv' sv rv ps' (fun n => n = f0) S R ∧ Ch (Rg Fs h) h h' := by
  have Q1 := Q.keeps H K1
  have H1 := Ch.wf K1
  have K := Ch.varRg Q1.var K0
  have hle := Ch.le K
  have hle1 := Ch.le K1
  obtain ⟨s1, s2⟩ := keepRow Q1.so Q1.fs K fun n a b => Q.sx (by rw [← b]; exact a)
  obtain ⟨r1, r2⟩ := keepRow Q1.ro Q1.fr K fun n a b => Q.rx (by rw [← b]; exact a)
  have hS : ¬ S f0 := fun s => by have := Q.ml f0 (.inr (.inl s)); omega
  have hR : ¬ R f0 := fun s => by have := Q.ml f0 (.inr (.inr (.inl s))); omega
  have hx : f0 ≠ x := by have := Q.xl; omega
  have off : ∀ p, p ∈ ps' → Fam h1 (Off Fs (MM (fun n => n = f0) S R x)) p.1 := fun p hp => (G.off p hp).mono fun n hn => ⟨Q.up n hn.1, fun m => by
    rcases m with m | m | m | m
    · exact hn.2 m
    · have := Q.ml n (.inr (.inl m)); have := hn.1; omega
    · have := Q.ml n (.inr (.inr (.inl m))); have := hn.1; omega
    · have := Q.xl; have := hn.1; omega⟩
  have G1 : GP h1 Fs (MM (fun n => n = f0) S R x) cv' l ps' := ⟨G.eq, G.own, G.rd, off⟩
  refine ⟨⟨V, by rw [e1]; exact G1.ch K (fun y r => r.mono fun n e => .inr (.inr (.inr e))) (F.apart fun n a b => hx (by rw [← a]; exact b)), by rw [e3]; exact s1, by rw [e2]; exact r1, F.ch K G.lt, s2, r2, fun n a s => hS (by rw [← a]; exact s), fun n a s => hR (by rw [← a]; exact s), Q.sr, fun a => hx a.symm, Q.sx, Q.rx, fun n m => ?_, fun n m => ?_, fun n hn => Q.up n (by omega)⟩, K1.rg.thenR (Q1.dirt K fun n e => .inr (.inr (.inr e)))⟩
  · rcases m with m | m
    · show n < h'.size; omega
    · have := Q.ml n (.inr m); omega
  · rcases m with m | m
    · exact Q.up n (by omega)
    · exact Q.mF n (.inr m)
/-- It stays as it is while another thing changes. -/
theorem DX.aside (Q : DX h Fs x X cv sv rv ps C S R) (H : Wf h) (K : Ch (Rg Gs h) h h') (hd : ∀ n, n < h.size → Fs n → ¬ Gs n) : DX h' (Nar Fs h.size h'.size) x X cv sv rv ps C S R := by
  have hle := Ch.le K
  have hM : ∀ n, MM C S R x n → ¬ Gs n := fun n m => hd n (Q.ml n m) (Q.mF n m)
  obtain ⟨s1, s2⟩ := keepRow Q.so Q.fs K fun n a => hM n (.inr (.inl a))
  obtain ⟨r1, r2⟩ := keepRow Q.ro Q.fr K fun n a => hM n (.inr (.inr (.inl a)))
  have plt : ∀ p, p ∈ ps → ∀ z, blkOf p.1 = some z → z < h.size := fun p hp z hz => ((Q.gp.rd p hp).blk_lt hz).1
  refine ⟨keepVar H Q.var K (hM x (.inr (.inr (.inr rfl)))), ⟨Q.gp.eq, Ch.ownR K Q.gp.own (Q.fc.apart fun n a => hM n (.inl a)), fun p hp => Ch.rd K (Q.gp.rd p hp) (apartH H hd ((Q.gp.off p hp).mono fun n hn => hn.1) (plt p hp)), fun p hp z k hz g => ?_⟩, s1, r1, Q.fc.ch K Q.clt, s2, r2, Q.cs, Q.cr, Q.sr, Q.cx, Q.sx, Q.rx, fun n m => Nat.lt_of_lt_of_le (Q.ml n m) hle, fun n m => .inl ⟨Q.mF n m, Q.ml n m⟩, fun n hn => .inr hn⟩
  obtain ⟨k0, g0, e⟩ := K.2.2.2.2.1 z k (plt p hp z hz) g
  have ho := Q.gp.off p hp z k0 hz g0
  have h1 := H.2 z k0 g0
  have h2 := plt p hp z hz
  rw [e]
  exact ⟨.inl ⟨ho.1, by omega⟩, ho.2⟩
/-- What of it is loaded. -/
theorem DX.load (Q : DX h Fs x X cv sv rv ps C S R) :
    aload prog h 3 ⟨x, 0, none⟩ = some (.int .i64 X.rows) ∧ aload prog h 3 ⟨x, 1, none⟩ = some (.int .i64 X.cols) ∧ aload prog h 22 ⟨x, 2, none⟩ = some cv ∧
    aload prog h 3 ⟨x, 3, none⟩ = some (.int .i64 X.row) ∧ aload prog h 3 ⟨x, 4, none⟩ = some (.int .i64 X.col) ∧ aload prog h 3 ⟨x, 5, none⟩ = some (.int .i64 X.attr) ∧
    aload prog h 4 ⟨x, 6, none⟩ = some (.bool X.hid) ∧ aload prog h 3 ⟨x, 7, none⟩ = some (.int .i64 (lastZ X.last)) ∧ aload prog h 3 ⟨x, 8, none⟩ = some (.int .i64 (X.st : Int)) ∧
    aload prog h 30 ⟨x, 9, none⟩ = some sv ∧ aload prog h 30 ⟨x, 10, none⟩ = some rv := by
  have V := Q.var
  exact ⟨V.load1 (i := 0) underlying3 rfl, V.load1 (i := 1) underlying3 rfl, V.load1 (i := 2) underlying22 rfl, V.load1 (i := 3) underlying3 rfl, V.load1 (i := 4) underlying3 rfl, V.load1 (i := 5) underlying3 rfl,
    V.load1 (i := 6) underlying4 rfl, V.load1 (i := 7) underlying3 rfl, V.load1 (i := 8) underlying3 rfl, V.load1 (i := 9) underlying30 rfl, V.load1 (i := 10) underlying30 rfl⟩
end
/-- The document's terminal, its parts left untold. -/
def DY (h : Heap) (Fs : Nat → Prop) (x : Nat) (X : TX) : Prop := ∃ cv sv rv ps C S R, DX h Fs x X cv sv rv ps C S R
theorem DY.keeps {h h' : Heap} {Fs : Nat → Prop} {x : Nat} {X : TX} (P : DY h Fs x X) (H : Wf h) (K : Keeps h h') : DY h' Fs x X := by
  obtain ⟨cv, sv, rv, ps, C, S, R, Q⟩ := P
  exact ⟨_, _, _, _, _, _, _, Q.keeps H K⟩
end Go.Proofs.YthmpaddhmgnkbaaDoor.Am
end
section
/- The document's terminal: contracts of at, goes, Waits, and of the document's blank grids, by walks. -/
set_option linter.unusedSimpArgs false
set_option linter.unusedVariables false
set_option maxHeartbeats 4000000
set_option maxRecDepth 20000
namespace Go.Proofs.YthmpaddhmgnkbaaDoor.Am
open Go Go.RowKit Go.Proofs.Tryd
theorem refAt_ok {h : Heap} {Fs : Nat → Prop} {x : Nat} {X : TX} (P : DY h Fs x X) (I : Inv X) : ACalls prog 68 #[pt x] h (fun y h' => y = .int .i64 (X.row * X.cols + X.col) ∧ h' = h) := by
  refine acalls_of_W func68 rfl (by kernel_rfl) (by kernel_rfl) (by simp [ntmps68]) ?_
  obtain ⟨cv, sv, rv, ps, C, S, R, Q⟩ := P
  obtain ⟨l0, l1, l2, l3, l4, l5, l6, l7, l8, l9, l10⟩ := Q.load
  obtain ⟨A, hA, hAl, hlen, _⟩ := I.rowA
  have hc := I.c; have hcol := I.col
  have wm : IntKind.i64.wrap (X.row * X.cols) = X.row * X.cols := IntWalk.i64_in _ (by omega)
  have wa : IntKind.i64.wrap (X.row * X.cols + X.col) = X.row * X.cols + X.col := IntWalk.i64_in _ (by omega)
  simp only [wk, wt, wl, ↓reduceIte, Nat.reduceEqDiff, Nat.reduceAdd, wz, pt]
  refine adraw_order [(0, false), (1, false), (2, false), (3, false), (4, false), (5, false), (6, false), (7, false), (8, false), (9, false), (10, false), (11, false), (12, false), (13, false), (14, false), (15, false), (16, false), (17, false)] mixed (by kernel_rfl) (by kernel_rfl) (by kernel_rfl) (by with_reducible repeat (first | exact PF_retK | refine PF_thenK ?_ | refine PF_blockK ?_)) ?_
  simp only [wk, wt, wl, ↓reduceIte, Nat.reduceEqDiff, Nat.reduceAdd, wz, dK_t, pt, l1, l3, l4, wm, wa]
theorem clamp_ref {r n : Int} (h : 1 ≤ n) : imax 0 (imin r (n - 1)) = clampZ r n := by
  unfold clampZ imax imin
  (repeat' split) <;> omega
theorem refGoes_ok {h : Heap} {Fs : Nat → Prop} {x : Nat} {X : TX} {r c : Int} (P : DY h Fs x X) (hr : 2 ≤ X.rows ∧ X.rows ≤ 500) (hc : 2 ≤ X.cols ∧ X.cols ≤ 1000) :
    ACalls prog 46 #[pt x, .int .i64 r, .int .i64 c] h (fun y h' => y = .tuple #[] ∧ DY h' Fs x (moveX X r c) ∧ Ch (Rg Fs h) h h') := by
  refine acalls_of_W' func46 rfl (by kernel_rfl) (by kernel_rfl) (by simp [ntmps46]) ?_
  intro H
  obtain ⟨cv, sv, rv, ps, C, S, R, Q⟩ := P
  obtain ⟨l0, l1, l2, l3, l4, l5, l6, l7, l8, l9, l10⟩ := Q.load
  have w0 : IntKind.i64.wrap (X.rows - 1) = X.rows - 1 := IntWalk.i64_in _ (by omega)
  have w1 : IntKind.i64.wrap (X.cols - 1) = X.cols - 1 := IntWalk.i64_in _ (by omega)
  obtain ⟨h1, e1, V1, C1, z1⟩ := Q.var.store1 (P := prog) (t := 3) (v := .int .i64 (clampZ r X.rows)) (i := 3) H asz3 (by simp [dF]) rfl
  obtain ⟨Q1, D1⟩ := Q.own (X' := { X with row := clampZ r X.rows }) H C1 V1 rfl rfl rfl
  have m1 := Q1.load.2.1
  obtain ⟨h2, e2, V2, C2, z2⟩ := Q1.var.store1 (P := prog) (t := 3) (v := .int .i64 (clampZ c X.cols)) (i := 4) (Ch.wf C1) asz3 (by simp [dF]) rfl
  obtain ⟨Q2, D2⟩ := Q1.own (X' := moveX X r c) (Ch.wf C1) C2 V2 rfl rfl rfl
  simp only [wk, wt, wl, ↓reduceIte, Nat.reduceEqDiff, Nat.reduceAdd, wz, pt, l0, w0, mnV, mxV, clamp_ref (show 1 ≤ X.rows by omega), e1, m1, w1, clamp_ref (show 1 ≤ X.cols by omega), e2]
  exact ⟨⟨_, _, _, _, _, _, _, Q2⟩, D1.thenR D2⟩
theorem sizeR_ref {r : Int} : imax 2 (imin r 500) = sizeR r := by
  unfold sizeR imax imin
  (repeat' split) <;> omega
theorem sizeC_ref {c : Int} : imax 2 (imin c 1000) = sizeC c := by
  unfold sizeC imax imin
  (repeat' split) <;> omega
theorem blankR_ok {h : Heap} {a : Int} : ACalls prog 43 #[.int .i64 a] h (fun y h' => ∃ tv, y = .agg #[tv, .int .i64 a, .bool false] ∧ RdI prog h' .i32 tv [32] ∧ (∀ z, blkOf tv = some z → h.size ≤ z) ∧ Keeps h h') := by
  refine acalls_of_W' func43 rfl (by kernel_rfl) (by kernel_rfl) (by simp [ntmps43]) ?_
  intro H
  have N1 := Keeps.new H 45 [.slice none 0 0, .int .i64 0, .bool false]
  have V1 := Var.new (e := 45) H (cs := [.slice none 0 0, .int .i64 0, .bool false])
  have N2 := Keeps.new (Ch.wf N1) 21 [.int .i32 32]
  have R2 : RdI prog ((h.new 45 [.slice none 0 0, .int .i64 0, .bool false]).new 21 [.int .i32 32]) .i32 (.slice (some ⟨h.size + 1, 0, none⟩) 1 2) [32] := rdI_new (Ch.wf N1) (xs := [32])
  have V2 := Keeps.var (Ch.wf N1) N2 V1
  simp only [wk, wt, wl, ↓reduceIte, Nat.reduceEqDiff, Nat.reduceAdd, wz, new_size, build_cell2]
  generalize (h.new 45 [.slice none 0 0, .int .i64 0, .bool false]).new 21 [.int .i32 32] = h2 at *
  obtain ⟨h3, e3, V3, C3, z3⟩ := V2.store (P := prog) (t := 45) (v := .agg #[.slice (some ⟨h.size + 1, 0, none⟩) 1 2, .int .i64 a, .bool false]) (i := 0) (Ch.wf N2) asz45 (by simp [Value.cells]) (by simp [Value.cells, one])
  simp only [Value.cells, over_all (xs := [.slice none 0 0, .int .i64 0, .bool false]) (vs := [.slice (some ⟨h.size + 1, 0, none⟩) 1 2, .int .i64 a, .bool false]) rfl] at V3
  have L3 := V3.loadA (P := prog) (t := 45) underlying45 rfl asz45
  simp only [wk, wt, wl, ↓reduceIte, Nat.reduceEqDiff, Nat.reduceAdd, wz, e3, L3]
  exact ⟨_, rfl, Ch.rd C3 R2 fun y hy e => by have := blk_new y hy; omega, fun z hz => Nat.le_of_succ_le (blk_new z hz), (N1.trans N2).step C3 fun y e => by omega⟩
/-- The blank grid that the document makes. -/
theorem refBlank_ok {h : Heap} {r c : Int} : ACalls prog 20 #[.int .i64 r, .int .i64 c] h (fun y h' => ∃ f0 cv ps, y = .agg #[.int .i64 (sizeR r), .int .i64 (sizeC c), cv, .int .i64 0, .int .i64 0] ∧
    GP h' (fun n => h.size ≤ n) (fun n => n = f0) cv (blankL r c) ps ∧ Fam h' (fun n => n = f0) cv ∧ (h.size ≤ f0 ∧ f0 < h'.size) ∧ Keeps h h') := by
  refine acalls_of_W' func20 rfl (by kernel_rfl) (by kernel_rfl) (by simp [ntmps20]) ?_
  intro H
  have hR := sizeR_bd r
  have hC := sizeC_bd c
  obtain ⟨n, hn⟩ : ∃ n : Nat, sizeR r * sizeC c = (n : Int) := ⟨(sizeR r * sizeC c).toNat, by have := Int.mul_nonneg (show 0 ≤ sizeR r by omega) (show 0 ≤ sizeC c by omega); omega⟩
  have hnn : n ≤ 500000 := by
    have h1 : sizeR r * sizeC c ≤ 500 * 1000 := Int.mul_le_mul (by omega) (by omega) (by omega) (by omega)
    omega
  have hbl : blankL r c = List.replicate n (bl 0) := by unfold blankL; rw [hn, Int.toNat_natCast]
  rw [hbl]
  have wm : IntKind.i64.wrap (sizeR r * sizeC c) = (n : Int) := by rw [hn]; exact IntWalk.i64_in _ (by omega)
  have hsr := sizeR_ref (r := r)
  have hsc := sizeC_ref (c := c)
  generalize sizeR r = R at *
  generalize sizeC c = C at *
  have N1 := Keeps.new H 24 [.int .i64 0, .int .i64 0, .slice none 0 0, .int .i64 0, .int .i64 0]
  have V1 := Var.new (e := 24) H (cs := [.int .i64 0, .int .i64 0, .slice none 0 0, .int .i64 0, .int .i64 0])
  have hz1 : (h.new 24 [.int .i64 0, .int .i64 0, .slice none 0 0, .int .i64 0, .int .i64 0]).size = h.size + 1 := rfl
  have bg : abuild prog 24 #[(0, .int .i64 R), (1, .int .i64 C)] = some (.agg #[.int .i64 R, .int .i64 C, .slice none 0 0, .int .i64 0, .int .i64 0]) := by simp [abuild, wt, aplaces, Instr.fill, Value.cells]
  simp only [wk, wt, wl, ↓reduceIte, Nat.reduceEqDiff, Nat.reduceAdd, wz, mxV, mnV, hsr, hsc, bg]
  generalize h.new 24 [.int .i64 0, .int .i64 0, .slice none 0 0, .int .i64 0, .int .i64 0] = h1 at *
  obtain ⟨h3, e3, V3, K13, z3⟩ := putGrid (Ch.wf N1) (r := R) (c := C) (v := .slice none 0 0) (y := 0) (x := 0) rfl
  have K3 := N1.trans K13
  have U3 := Keeps.var (Ch.wf N1) K13 V1
  have LA := fun {hh : Heap} {v : Value} (V : Var hh h1.size [.int .i64 R, .int .i64 C, v, .int .i64 0, .int .i64 0]) => loadGrid V
  simp only [wk, wt, wl, ↓reduceIte, Nat.reduceEqDiff, Nat.reduceAdd, wz, e3]
  refine W_loop (fun tm hh => tm 4 = pt h.size ∧ tm 5 = pt h1.size ∧ Keeps h hh ∧ Var hh h.size [.int .i64 0, .int .i64 0, .slice none 0 0, .int .i64 0, .int .i64 0] ∧ ∃ (i : Nat) (f0 : Nat) (cv : Value) (ps : List PC), tm 6 = .int .i64 (i : Int) ∧ i ≤ n ∧ Var hh h1.size [.int .i64 R, .int .i64 C, cv, .int .i64 0, .int .i64 0] ∧
      GP hh (fun m => h.size ≤ m) (fun m => m = f0) cv (List.replicate i (bl 0)) ps ∧ Fam hh (fun m => m = f0) cv ∧ (h.size ≤ f0 ∧ f0 < hh.size) ∧ (∀ z, blkOf cv = some z → h1.size < z) ∧ (∀ p, p ∈ ps → ∀ z, blkOf p.1 = some z → h1.size < z))
    (fun tm _ => (n - intOf (tm 6)).toNat) ⟨(by first | rfl | (simp only [wk, wt, wl, ↓reduceIte, Nat.reduceEqDiff, Nat.reduceAdd, wz]; done) | (simp only [wk, wt, wl, ↓reduceIte, Nat.reduceEqDiff, Nat.reduceAdd, wz]; rfl)), (by first | rfl | (simp only [wk, wt, wl, ↓reduceIte, Nat.reduceEqDiff, Nat.reduceAdd, wz]; done) | (simp only [wk, wt, wl, ↓reduceIte, Nat.reduceEqDiff, Nat.reduceAdd, wz]; rfl)), K3, U3, 0, h.size, .slice none 0 0, [], (by first | rfl | (simp only [wk, wt, wl, ↓reduceIte, Nat.reduceEqDiff, Nat.reduceAdd, wz]; done) | (simp only [wk, wt, wl, ↓reduceIte, Nat.reduceEqDiff, Nat.reduceAdd, wz]; rfl)), by omega, V3, ⟨rfl, OwnR.nil0, fun p hp => (by cases hp), fun p hp => (by cases hp)⟩, Fam.nil, ⟨Nat.le_refl _, (by have := Ch.le K13; omega)⟩, fun z hz => (by cases hz), fun p hp => (by cases hp)⟩ ?_
  rintro tm hh ⟨t4, t5, K, U, i, f0, cv, ps, t6, hi, V, G, F, hf, hb, hbp⟩
  obtain ⟨a0, a1, a2, _, _, a5⟩ := LA V
  simp only [wk, wt, wl, ↓reduceIte, Nat.reduceEqDiff, Nat.reduceAdd, wz, t4, t5, t6, pt, a0, a1, wm]
  refine condK_dec (fun hd => ?_) (fun hd => ?_)
  · have hpl : ps.length = i := by have := G.length; rwa [List.length_replicate] at this
    simp only [wk, wt, wl, ↓reduceIte, Nat.reduceEqDiff, Nat.reduceAdd, wz, t4, t5, t6, pt]
    refine adraw_order [(0, false), (1, false), (2, true), (3, true), (4, false), (5, false), (6, false)] mixed (by kernel_rfl) (by kernel_rfl) (by kernel_rfl) (by with_reducible repeat (first | exact PF_retK | refine PF_thenK ?_ | refine PF_blockK ?_)) ?_
    simp only [wk, wt, wl, ↓reduceIte, Nat.reduceEqDiff, Nat.reduceAdd, wz, dK_t, t5, pt, a2]
    refine (blankR_ok (a := 0)).use ?_
    rintro _ h6 ⟨tv, rfl, R6, hz6, K6⟩
    have hle6 := Ch.le K6
    have hleK := Ch.le K
    have G6 := G.keeps K6
    have F6 := F.ch K6 G.lt
    have V6 := Keeps.var (Ch.wf K) K6 V
    have U6 := Keeps.var (Ch.wf K) K6 U
    have B3 := buildA3 (P := prog) (h := h6) (t := 22) underlying22 asz45 azero45 rfl R6.one (one_int (k := .i64) (x := 0)) (one_bool (b := false))
    obtain ⟨h7, e7, O7, z7, C7, ⟨k7, g7, ro7, fam7⟩, _⟩ := G6.own.append1 (P := prog) (Ch.wf K6) underlying22 elem45 fits45 (by decide) (xs := [tv, .int .i64 0, .bool false]) rfl (by omega)
    have nf : ∀ (y : Nat) (cs : List Value), Var h6 y cs → y ≤ h1.size → ¬ FamV h6 cv y := fun y cs W hy => W.notFam fun e => by have := hb y e; omega
    have V7 := Ch.var (Ch.wf K6) C7 V6 (nf _ _ V6 (Nat.le_refl _))
    have U7 := Ch.var (Ch.wf K6) C7 U6 (nf _ _ U6 (by omega))
    have hlt1 : h1.size < hh.size := V.lt (Ch.wf K)
    have dirt7 : ∀ y, FamV h6 cv y → h.size ≤ y := fun y d => by
      obtain ⟨k, g, e⟩ := FamV.rg F6 d
      have := (Ch.wf K6).2 y k g
      omega
    have K7 := (K.trans K6).step C7 dirt7
    obtain ⟨h8, e8, V8, C8, z8⟩ := V7.store1 (P := prog) (t := 22) (v := .slice (some ⟨h6.size + 1, 0, none⟩) (ps.length + 1) 0) (i := 2) (Ch.wf C7) asz22 (by simp) rfl
    simp only [List.set_cons_succ, List.set_cons_zero] at V8
    have K8 := K7.step C8 fun y e => by omega
    have U8 := Ch.var (Ch.wf C7) C8 U7 (by omega)
    have O8 := Ch.ownR C8 O7 fun y hy e => by have := blk_new y hy; omega
    have CR7 : Ch (Rg (fun m => m = f0) h6) h6 h7 := C7.mono fun y d => FamV.rg F6 d
    -- texts
    have tx : ∀ (v : Value) (xs : List Int), RdI prog h6 .i32 v xs → Fam h6 (Off (fun m => h.size ≤ m) (fun m => m = f0)) v → (∀ z, blkOf v = some z → h1.size < z) → RdI prog h8 .i32 v xs ∧ Fam h8 (fun m => h.size ≤ m ∧ m ≠ f0 ∧ m < h6.size) v := fun v xs Rv Fv hbv => by
      have r7 := Ch.rd CR7 Rv (Fv.apart fun m a b => a.2 b)
      refine ⟨Ch.rd C8 r7 fun y hy e => by have := hbv y hy; omega, fun z k hz g => ?_⟩
      have hz6 := (Rv.blk_lt hz).1
      obtain ⟨k1, g1, e1⟩ := C8.2.2.2.2.1 z k (by omega) g
      obtain ⟨k2, g2, e2⟩ := CR7.2.2.2.2.1 z k1 hz6 g1
      have o := Fv z k2 hz g2
      have := (Ch.wf K6).2 z k2 g2
      rw [e1, e2]
      exact ⟨o.1, o.2, by omega⟩
    have off6 : Fam h6 (Off (fun m => h.size ≤ m) (fun m => m = f0)) tv := (Fam.freshK K6 hz6).mono fun m hm => ⟨by have := hm.1; show h.size ≤ m; omega, fun e => by omega⟩
    have hw8 := Ch.wf C8
    obtain ⟨f1, F8, hf1⟩ : ∃ f1, Fam h8 (fun m => m = f1) (.slice (some ⟨h6.size + 1, 0, none⟩) (ps.length + 1) 0) ∧ (f1 = h6.size + 1 ∨ f1 = f0) := by
      have at8 : ∀ k, h8.get (h6.size + 1) = some k → k.fam = k7.fam := fun k g => by
        obtain ⟨k1, g1, e1⟩ := C8.2.2.2.2.1 (h6.size + 1) k (by omega) g
        rw [g7] at g1; cases g1
        exact e1
      rcases fam7 with e | ⟨w, kw, hw, gw, e⟩
      · exact ⟨h6.size + 1, fun z k hz g => by cases hz; exact (at8 k g).trans e, .inl rfl⟩
      · exact ⟨f0, fun z k hz g => by cases hz; exact ((at8 k g).trans e).trans (F6 w kw hw gw), .inr rfl⟩
    have off8 : ∀ v, Fam h8 (fun m => h.size ≤ m ∧ m ≠ f0 ∧ m < h6.size) v → Fam h8 (Off (fun m => h.size ≤ m) (fun m => m = f1)) v := fun v Fv => Fv.mono fun m hm => ⟨hm.1, fun e => by
      rcases hf1 with q | q
      · omega
      · exact hm.2.1 (by omega)⟩
    have G8 : GP h8 (fun m => h.size ≤ m) (fun m => m = f1) (.slice (some ⟨h6.size + 1, 0, none⟩) (ps.length + 1) 0) (List.replicate (i + 1) (bl 0)) (ps ++ [(tv, bl 0)]) := by
      have key : ∀ p, p ∈ ps ++ [(tv, bl 0)] → RdI prog h8 .i32 p.1 p.2.tx ∧ Fam h8 (Off (fun m => h.size ≤ m) (fun m => m = f1)) p.1 := fun p hp => by
        rcases List.mem_append.1 hp with hp | hp
        · obtain ⟨r, f⟩ := tx _ _ (G6.rd p hp) (G6.off p hp) (hbp p hp)
          exact ⟨r, off8 _ f⟩
        · obtain rfl := List.mem_singleton.1 hp
          obtain ⟨r, f⟩ := tx tv [32] R6 off6 fun z hz => by have := hz6 z hz; omega
          exact ⟨r, off8 _ f⟩
      refine ⟨by rw [List.map_append, G.eq, List.replicate_succ']; rfl, ?_, fun p hp => (key p hp).1, fun p hp => (key p hp).2⟩
      have := O8
      rw [List.length_append, List.length_singleton, List.flatMap_append]
      exact this
    try refine ⟨fun _ => K6.reads (Ch.wf K), ?_⟩
    rw [hpl] at e7 e8 V8 F8 G8
    simp (disch := omega) only [wk, wt, wl, ↓reduceIte, Nat.reduceEqDiff, Nat.reduceAdd, wz, dK_t, t4, t5, t6, pt, B3, a2, e7, e8, IntWalk.i64_in, intOf_int]
    refine ⟨(Keeps.new (Ch.wf K6) _ _).reads (Ch.wf K6), ?_⟩
    exact ⟨⟨K8, U8, i + 1, f1, _, _, by simp, by omega, V8, G8, F8, ⟨by omega, by omega⟩, fun z hz => by have := blk_new z hz; omega, fun p hp z hz => by
      rcases List.mem_append.1 hp with hp | hp
      · exact hbp p hp z hz
      · obtain rfl := List.mem_singleton.1 hp
        have := hz6 z hz
        omega⟩, by omega⟩
  · obtain rfl : i = n := by omega
    have oc : one cv = true := G.own.1.one
    obtain ⟨h8, e8, U8, C8, z8⟩ := U.store (P := prog) (t := 24) (v := .agg #[.int .i64 R, .int .i64 C, cv, .int .i64 0, .int .i64 0]) (i := 0) (Ch.wf K) asz24 (by simp [Value.cells, one_cells oc]) (by simp [Value.cells, one_cells oc, oc, one_int])
    have hcs : (Value.agg #[.int .i64 R, .int .i64 C, cv, .int .i64 0, .int .i64 0]).cells.toList = [.int .i64 R, .int .i64 C, cv, .int .i64 0, .int .i64 0] := by simp [Value.cells, one_cells oc]
    rw [hcs, over_all (xs := [.int .i64 0, .int .i64 0, .slice none 0 0, .int .i64 0, .int .i64 0]) (vs := [.int .i64 R, .int .i64 C, cv, .int .i64 0, .int .i64 0]) rfl] at U8
    have UA := U8.loadA (P := prog) (t := 24) underlying24 rfl asz24
    simp only [wk, wt, wl, ↓reduceIte, Nat.reduceEqDiff, Nat.reduceAdd, wz, t4, t5, pt, a5, e8, UA]
    have hx : h.size ≠ h1.size := by omega
    have hbx : ∀ z, blkOf cv = some z → z ≠ h.size := fun z hz => by have := hb z hz; omega
    refine ⟨f0, cv, ps, rfl, ⟨G.eq, Ch.ownR C8 G.own fun y hy e => hbx y hy e, fun p hp => Ch.rd C8 (G.rd p hp) fun y hy e => by have := hbp p hp y hy; omega, fun p hp => (G.off p hp).ch C8 fun z hz => ((G.rd p hp).blk_lt hz).1⟩, F.ch C8 G.lt, ⟨hf.1, by omega⟩, K.step C8 fun y e => by omega⟩
end Go.Proofs.YthmpaddhmgnkbaaDoor.Am
end
section
/- The document's terminal: contracts of New, Resize and blank, by walks. -/
set_option linter.unusedSimpArgs false
set_option linter.unusedVariables false
set_option maxHeartbeats 4000000
set_option maxRecDepth 20000
namespace Go.Proofs.YthmpaddhmgnkbaaDoor.Am
open Go Go.RowKit Go.Proofs.Tryd
theorem build_rterm {r c : Int} {cv : Value} (o : one cv = true) : abuild prog 34 #[(0, .agg #[.int .i64 r, .int .i64 c, cv, .int .i64 0, .int .i64 0]), (3, .int .i64 (-1))] = some (.agg #[.int .i64 r, .int .i64 c, cv, .int .i64 0, .int .i64 0, .int .i64 0, .bool false, .int .i64 (-1), .int .i64 0, .slice none 0 0, .slice none 0 0]) := by
  simp [abuild, wt, aplaces, Instr.fill, Value.cells, one_cells o]
theorem boxV_rterm {h : Heap} {r c : Int} {cv : Value} (o : one cv = true) : boxV prog h 34 (.agg #[.int .i64 r, .int .i64 c, cv, .int .i64 0, .int .i64 0, .int .i64 0, .bool false, .int .i64 (-1), .int .i64 0, .slice none 0 0, .slice none 0 0]) = some (.pointer (some ⟨h.size, 0, none⟩), h.new 34 [.int .i64 r, .int .i64 c, cv, .int .i64 0, .int .i64 0, .int .i64 0, .bool false, .int .i64 (-1), .int .i64 0, .slice none 0 0, .slice none 0 0]) := by
  simp [boxV, asz34, Value.cells, one_cells o, o, one_int, one_bool, one_slice]
theorem refNew_ok {h : Heap} {r c : Int} : ACalls prog 19 #[.int .i64 r, .int .i64 c] h (fun y h' => ∃ x, y = pt x ∧ h.size ≤ x ∧ DY h' (fun n => h.size ≤ n) x (newX r c) ∧ Keeps h h') := by
  refine acalls_of_W' func19 rfl (by kernel_rfl) (by kernel_rfl) (by simp [ntmps19]) ?_
  intro H
  simp only [wk, wt, wl, ↓reduceIte, Nat.reduceEqDiff, Nat.reduceAdd, wz]
  refine (refBlank_ok (r := r) (c := c)).use ?_
  rintro _ h1 ⟨f0, cv, ps, rfl, G1, F1, hf, K1⟩
  have oc : one cv = true := G1.own.1.one
  simp only [wk, wt, wl, ↓reduceIte, Nat.reduceEqDiff, Nat.reduceAdd, wz, build_rterm oc, aeff_box, boxV_rterm oc]
  have N2 := Keeps.new (Ch.wf K1) 34 [.int .i64 (sizeR r), .int .i64 (sizeC c), cv, .int .i64 0, .int .i64 0, .int .i64 0, .bool false, .int .i64 (-1), .int .i64 0, .slice none 0 0, .slice none 0 0]
  have V2 := Var.new (e := 34) (Ch.wf K1) (cs := [.int .i64 (sizeR r), .int .i64 (sizeC c), cv, .int .i64 0, .int .i64 0, .int .i64 0, .bool false, .int .i64 (-1), .int .i64 0, .slice none 0 0, .slice none 0 0])
  have hz2 : (h1.new 34 [.int .i64 (sizeR r), .int .i64 (sizeC c), cv, .int .i64 0, .int .i64 0, .int .i64 0, .bool false, .int .i64 (-1), .int .i64 0, .slice none 0 0, .slice none 0 0]).size = h1.size + 1 := rfl
  generalize h1.new 34 [.int .i64 (sizeR r), .int .i64 (sizeC c), cv, .int .i64 0, .int .i64 0, .int .i64 0, .bool false, .int .i64 (-1), .int .i64 0, .slice none 0 0, .slice none 0 0] = h2 at *
  have hle := Ch.le K1
  have off : ∀ p, p ∈ ps → Fam h1 (Off (fun n => h.size ≤ n) (MM (fun n => n = f0) (fun _ => False) (fun _ => False) h1.size)) p.1 := fun p hp z k hz g => by
    have o := G1.off p hp z k hz g
    have h1 := (Ch.wf K1).2 z k g
    have h2 := ((G1.rd p hp).blk_lt hz).1
    exact ⟨o.1, fun m => by
      rcases m with m | m | m | m
      · exact o.2 m
      · exact m
      · exact m
      · omega⟩
  have G1' : GP h1 (fun n => h.size ≤ n) (MM (fun n => n = f0) (fun _ => False) (fun _ => False) h1.size) cv (blankL r c) ps := ⟨G1.eq, G1.own, G1.rd, off⟩
  refine ⟨h1.size, rfl, hle, ⟨cv, .slice none 0 0, .slice none 0 0, ps, fun n => n = f0, fun _ => False, fun _ => False, V2, G1'.keeps N2, OwnR.nil0, OwnR.nil0, F1.ch N2 G1.lt, Fam.nil, Fam.nil, fun n _ e => e, fun n _ e => e, fun n e => e.elim, fun e => ?_, fun e => e, fun e => e, fun n m => ?_, fun n m => ?_, fun n hn => ?_⟩, K1.trans N2⟩
  · have : h1.size = f0 := e
    omega
  · rcases m with m | m | m | m
    · show n < h2.size; have : n = f0 := m; omega
    · exact m.elim
    · exact m.elim
    · omega
  · rcases m with m | m | m | m
    · have : n = f0 := m; show h.size ≤ n; omega
    · exact m.elim
    · exact m.elim
    · show h.size ≤ n; omega
  · show h.size ≤ n; omega
section
variable {h h1 : Heap} {Fs : Nat → Prop} {x i : Nat} {X : TX} {cv sv rv tv : Value} {ps : List PC} {C S R : Nat → Prop} {c : Cel}
/-- A cell is written anew. -/
theorem DX.putCell (Q : DX h Fs x X cv sv rv ps C S R) (H : Wf h) (K : Keeps h h1) (hi : i < X.cells.length) (ht : RdI prog h1 .i32 tv c.tx) (hz : ∀ z, blkOf tv = some z → h.size ≤ z) :
    ∃ h2 ps', storeV prog h1 45 (.pointer (some (eltA cv 3 i))) (.agg #[tv, .int .i64 c.ar, .bool c.wd]) = some (undef, h2) ∧ DX h2 Fs x { X with cells := X.cells.set i c } cv sv rv ps' C S R ∧ Ch (Rg Fs h) h h2 := by
  have Q1 := Q.keeps H K
  obtain ⟨h2, e2, G2, C2, z2⟩ := Q1.gp.set (c := c) (Ch.wf K) (Q1.fc.mono fun n a => .inl a) hi ht (Q.fresh K hz)
  obtain ⟨Q2, D2⟩ := Q1.cells (Ch.wf K) C2 G2
  exact ⟨h2, _, e2, Q2, K.rg.thenR D2⟩
theorem DX.blankAt (Q : DX h Fs x X cv sv rv ps C S R) (H : Wf h) (hi : i < X.cells.length) :
    ∃ h2 ps', storeV prog (h.new 21 [.int .i32 32]) 45 (.pointer (some (eltA cv 3 i))) (.agg #[.slice (some ⟨h.size, 0, none⟩) 1 2, .int .i64 0, .bool false]) = some (undef, h2) ∧ DX h2 Fs x { X with cells := X.cells.set i (bl 0) } cv sv rv ps' C S R ∧ Ch (Rg Fs h) h h2 :=
  Q.putCell (c := bl 0) H (Keeps.new H 21 [.int .i32 32]) hi (rdI_new H (xs := [32])) blk_new
end
theorem wipe_parts {l l1 l2 : List Cel} {F T : Nat} (hft : F < T) (hT : T ≤ l.length) (he : (l.getD F (bl 0)).tx = [] → 0 < F) (hw : (l.getD (T - 1) (bl 0)).wd = true → T < l.length)
    (h1 : l1 = if (l.getD F (bl 0)).tx = [] then l.set (F - 1) (bl 0) else l) (h2 : l2 = if (l.getD (T - 1) (bl 0)).wd = true then l1.set T (bl 0) else l1) : setB l2 F T = wipeL l F T := by
  unfold wipeL
  rw [if_pos hft]
  subst h1
  subst h2
  refine List.ext_getElem? fun i => ?_
  rw [setB_at, setB_at]
  by_cases c1 : (l.getD F (bl 0)).tx = []
  · have h0 := he c1
    rw [if_pos c1, if_pos c1]
    by_cases c2 : (l.getD (T - 1) (bl 0)).wd = true
    · have h3 := hw c2
      rw [if_pos c2, if_pos c2, List.getElem?_set, List.getElem?_set, List.length_set]
      by_cases e1 : T = i
      · subst e1
        rw [if_pos rfl, if_pos h3, List.getElem?_eq_getElem h3]
        simp only [Option.map_some]
        rw [if_neg (by omega), if_pos (by omega)]
      · rw [if_neg e1]
        by_cases e2 : F - 1 = i
        · subst e2
          rw [if_pos rfl, if_pos (by omega), List.getElem?_eq_getElem (by omega)]
          simp only [Option.map_some]
          rw [if_neg (by omega), if_pos (by omega)]
        · rw [if_neg e2]
          congr 1; funext c
          by_cases e3 : F ≤ i ∧ i < T
          · rw [if_pos e3, if_pos (by omega)]
          · rw [if_neg e3, if_neg (by omega)]
    · rw [if_neg c2, if_neg c2, List.getElem?_set]
      by_cases e2 : F - 1 = i
      · subst e2
        rw [if_pos rfl, if_pos (by omega), List.getElem?_eq_getElem (by omega)]
        simp only [Option.map_some]
        rw [if_neg (by omega), if_pos (by omega)]
      · rw [if_neg e2]
        congr 1; funext c
        by_cases e3 : F ≤ i ∧ i < T
        · rw [if_pos e3, if_pos (by omega)]
        · rw [if_neg e3, if_neg (by omega)]
  · rw [if_neg c1, if_neg c1]
    by_cases c2 : (l.getD (T - 1) (bl 0)).wd = true
    · have h3 := hw c2
      rw [if_pos c2, if_pos c2, List.getElem?_set]
      by_cases e1 : T = i
      · subst e1
        rw [if_pos rfl, if_pos h3, List.getElem?_eq_getElem h3]
        simp only [Option.map_some]
        rw [if_neg (by omega), if_pos (by omega)]
      · rw [if_neg e1]
        congr 1; funext c
        by_cases e3 : F ≤ i ∧ i < T
        · rw [if_pos e3, if_pos (by omega)]
        · rw [if_neg e3, if_neg (by omega)]
    · rw [if_neg c2, if_neg c2]
theorem refWipe_ok {h : Heap} {Fs : Nat → Prop} {x : Nat} {X : TX} {F T : Nat} (P : DY h Fs x X) (hT : T ≤ X.cells.length) (hl : X.cells.length ≤ 500000)
    (he : F < T → (X.cells.getD F (bl 0)).tx = [] → 0 < F) (hw : F < T → (X.cells.getD (T - 1) (bl 0)).wd = true → T < X.cells.length) :
    ACalls prog 69 #[pt x, .int .i64 F, .int .i64 T] h (fun y h' => y = .tuple #[] ∧ DY h' Fs x { X with cells := wipeL X.cells F T } ∧ Ch (Rg Fs h) h h') := by
  refine acalls_of_W' func69 rfl (by kernel_rfl) (by kernel_rfl) (by simp [ntmps69]) ?_
  intro H
  obtain ⟨cv, sv, rv, ps, C, S, R, Q⟩ := P
  obtain ⟨l0, l1, l2, l3, l4, l5, l6, l7, l8, l9, l10⟩ := Q.load
  by_cases hft : F < T
  · have d1 : decide ((F : Int) < (T : Int)) = true := decide_eq_true (by omega)
    obtain ⟨p, p1, p2, p3⟩ := Q.gp.at (i := F) (by omega)
    obtain ⟨a1, a2, a3, a4, a5⟩ := Q.gp.loads p1
    have IF := Q.gp.index (z := (F : Int)) (by omega) (by omega)
    simp only [Int.toNat_natCast] at IF
    have LF := (Q.gp.rd p p3).len underlying43
    have wT : IntKind.i64.wrap ((T : Int) - 1) = ((T - 1 : Nat) : Int) := by rw [IntWalk.i64_in _ (by omega)]; omega
    have gF := getD_at p2 (d := bl 0)
    have step : ∀ {h1 : Heap} {l1 : List Cel} {ps1 : List PC}, DX h1 Fs x { X with cells := l1 } cv sv rv ps1 C S R → Ch (Rg Fs h) h h1 → l1.length = X.cells.length → (l1.getD (T - 1) (bl 0)) = X.cells.getD (T - 1) (bl 0) →
        ∃ w : Bool, (X.cells.getD (T - 1) (bl 0)).wd = w ∧ aload prog h1 4 ⟨(eltA cv 3 (T - 1)).block, (eltA cv 3 (T - 1)).off + 2, none⟩ = some (.bool w) ∧ aindexAddr prog 22 cv (.int .i64 ((T - 1 : Nat) : Int)) = some (.pointer (some (eltA cv 3 (T - 1)))) := fun {h1 l1 ps1} Q1 D1 hl1 hg => by
      obtain ⟨q, q1, q2, q3⟩ := Q1.gp.at (i := T - 1) (by show T - 1 < l1.length; omega)
      obtain ⟨b1, b2, b3, b4, b5⟩ := Q1.gp.loads q1
      have IT := Q1.gp.index (z := ((T - 1 : Nat) : Int)) (by omega) (by show ((T - 1 : Nat) : Int) < (l1.length : Int); omega)
      simp only [Int.toNat_natCast] at IT
      exact ⟨q.2.wd, by rw [← hg, getD_at q2], b3, IT⟩
    by_cases c1 : p.2.tx = []
    · have d2 : decide ((p.2.tx.length : Int) = 0) = true := decide_eq_true (by rw [c1]; rfl)
      have hF0 := he hft (by rw [gF]; exact c1)
      have wF : IntKind.i64.wrap ((F : Int) - 1) = ((F - 1 : Nat) : Int) := by rw [IntWalk.i64_in _ (by omega)]; omega
      obtain ⟨h1, ps1, e1, Q1, D1⟩ := Q.blankAt (i := F - 1) H (by omega)
      have IF1 := Q.gp.index (z := ((F - 1 : Nat) : Int)) (by omega) (by omega)
      simp only [Int.toNat_natCast] at IF1
      have hl1 : (X.cells.set (F - 1) (bl 0)).length = X.cells.length := List.length_set
      obtain ⟨w, hwd, lw, IT⟩ := step Q1 D1 hl1 (by simp [List.getD, List.getElem?_set]; rw [if_neg (by omega)])
      cases w with
      | true =>
        have hw2 := hw hft hwd
        obtain ⟨h2, ps2, e2, Q2, D2⟩ := Q1.blankAt (i := T) (Ch.wf D1) (by show T < (X.cells.set (F - 1) (bl 0)).length; omega)
        have IT2 := Q1.gp.index (z := (T : Int)) (by omega) (by show (T : Int) < ((X.cells.set (F - 1) (bl 0)).length : Int); omega)
        simp only [Int.toNat_natCast] at IT2
        have hwl := wipe_parts (l := X.cells) hft hT (he hft) (hw hft) rfl rfl
        rw [gF, if_pos c1, if_pos hwd] at hwl
        simp only [wk, wt, wl, ↓reduceIte, Nat.reduceEqDiff, Nat.reduceAdd, wz, pt, l2, d1, IF, a1, a5, LF, d2, wF, build_cell1, IF1, e1, wT, IT, lw, IT2, e2]
        refine W_loop (fun tm hh => tm 0 = pt x ∧ tm 1 = .int .i64 (F : Int) ∧ tm 2 = .int .i64 (T : Int) ∧ tm 6 = cv ∧ Ch (Rg Fs h) h hh ∧ ∃ (j : Nat) (ps : List PC), tm 7 = .int .i64 ((F + j : Nat) : Int) ∧ F + j ≤ T ∧ DX hh Fs x { X with cells := setB ((X.cells.set (F - 1) (bl 0)).set T (bl 0)) F (F + j) } cv sv rv ps C S R)
          (fun tm _ => ((T : Int) - intOf (tm 7)).toNat) ⟨(by first | rfl | (simp only [wk, wt, wl, ↓reduceIte, Nat.reduceEqDiff, Nat.reduceAdd, wz]; done) | (simp only [wk, wt, wl, ↓reduceIte, Nat.reduceEqDiff, Nat.reduceAdd, wz]; rfl)), (by first | rfl | (simp only [wk, wt, wl, ↓reduceIte, Nat.reduceEqDiff, Nat.reduceAdd, wz]; done) | (simp only [wk, wt, wl, ↓reduceIte, Nat.reduceEqDiff, Nat.reduceAdd, wz]; rfl)), (by first | rfl | (simp only [wk, wt, wl, ↓reduceIte, Nat.reduceEqDiff, Nat.reduceAdd, wz]; done) | (simp only [wk, wt, wl, ↓reduceIte, Nat.reduceEqDiff, Nat.reduceAdd, wz]; rfl)), (by first | rfl | (simp only [wk, wt, wl, ↓reduceIte, Nat.reduceEqDiff, Nat.reduceAdd, wz]; done) | (simp only [wk, wt, wl, ↓reduceIte, Nat.reduceEqDiff, Nat.reduceAdd, wz]; rfl)), (D1.thenR D2), 0, _, (by first | rfl | (simp only [wk, wt, wl, ↓reduceIte, Nat.reduceEqDiff, Nat.reduceAdd, wz]; done) | (simp only [wk, wt, wl, ↓reduceIte, Nat.reduceEqDiff, Nat.reduceAdd, wz]; rfl)), by omega, by rw [Nat.add_zero, setB_nil]; exact Q2⟩ ?_
        rintro tm hh ⟨t0, t1, t2, t6, D, j, ps', t7, hj, Q'⟩
        simp only [wk, wt, wl, ↓reduceIte, Nat.reduceEqDiff, Nat.reduceAdd, wz, t0, t1, t2, t6, t7]
        refine condK_dec (fun hd => ?_) (fun hd => ?_)
        · have hlb : (setB ((X.cells.set (F - 1) (bl 0)).set T (bl 0)) F (F + j)).length = X.cells.length := by rw [setB_len, List.length_set, List.length_set]
          have HH := Ch.wf D
          obtain ⟨h5, ps5, e5, Q5, D5⟩ := Q'.blankAt (i := F + j) HH (by show F + j < (setB ((X.cells.set (F - 1) (bl 0)).set T (bl 0)) F (F + j)).length; rw [hlb]; omega)
          simp only [setB_succ (show F + j < (((X.cells.set (F - 1) (bl 0)).set T (bl 0))).length by rw [List.length_set, List.length_set]; omega)] at Q5
          have IX := Q'.gp.index (z := ((F + j : Nat) : Int)) (by omega) (by show ((F + j : Nat) : Int) < ((setB ((X.cells.set (F - 1) (bl 0)).set T (bl 0)) F (F + j)).length : Int); rw [hlb]; omega)
          simp only [Int.toNat_natCast] at IX
          have wj : IntKind.i64.wrap (((F + j : Nat) : Int) + 1) = ((F + (j + 1) : Nat) : Int) := by rw [IntWalk.i64_in _ (by omega)]; omega
          simp only [wk, wt, wl, ↓reduceIte, Nat.reduceEqDiff, Nat.reduceAdd, wz, t0, t1, t2, t6, t7, build_cell1, IX, e5, wj, intOf_int]
          exact ⟨⟨D.thenR D5, j + 1, _, rfl, by omega, Q5⟩, by omega⟩
        · obtain rfl : T = F + j := by omega
          simp only [wk, wt, wl, ↓reduceIte, Nat.reduceEqDiff, Nat.reduceAdd, wz]
          rw [← hwl]
          exact ⟨⟨_, _, _, _, _, _, _, Q'⟩, D⟩
      | false =>
        have hwl := wipe_parts (l := X.cells) hft hT (he hft) (hw hft) rfl rfl
        rw [gF, if_pos c1, if_neg (by rw [hwd]; decide)] at hwl
        simp only [wk, wt, wl, ↓reduceIte, Nat.reduceEqDiff, Nat.reduceAdd, wz, pt, l2, d1, IF, a1, a5, LF, d2, wF, build_cell1, IF1, e1, wT, IT, lw]
        refine W_loop (fun tm hh => tm 0 = pt x ∧ tm 1 = .int .i64 (F : Int) ∧ tm 2 = .int .i64 (T : Int) ∧ tm 6 = cv ∧ Ch (Rg Fs h) h hh ∧ ∃ (j : Nat) (ps : List PC), tm 7 = .int .i64 ((F + j : Nat) : Int) ∧ F + j ≤ T ∧ DX hh Fs x { X with cells := setB (X.cells.set (F - 1) (bl 0)) F (F + j) } cv sv rv ps C S R)
          (fun tm _ => ((T : Int) - intOf (tm 7)).toNat) ⟨(by first | rfl | (simp only [wk, wt, wl, ↓reduceIte, Nat.reduceEqDiff, Nat.reduceAdd, wz]; done) | (simp only [wk, wt, wl, ↓reduceIte, Nat.reduceEqDiff, Nat.reduceAdd, wz]; rfl)), (by first | rfl | (simp only [wk, wt, wl, ↓reduceIte, Nat.reduceEqDiff, Nat.reduceAdd, wz]; done) | (simp only [wk, wt, wl, ↓reduceIte, Nat.reduceEqDiff, Nat.reduceAdd, wz]; rfl)), (by first | rfl | (simp only [wk, wt, wl, ↓reduceIte, Nat.reduceEqDiff, Nat.reduceAdd, wz]; done) | (simp only [wk, wt, wl, ↓reduceIte, Nat.reduceEqDiff, Nat.reduceAdd, wz]; rfl)), (by first | rfl | (simp only [wk, wt, wl, ↓reduceIte, Nat.reduceEqDiff, Nat.reduceAdd, wz]; done) | (simp only [wk, wt, wl, ↓reduceIte, Nat.reduceEqDiff, Nat.reduceAdd, wz]; rfl)), D1, 0, _, (by first | rfl | (simp only [wk, wt, wl, ↓reduceIte, Nat.reduceEqDiff, Nat.reduceAdd, wz]; done) | (simp only [wk, wt, wl, ↓reduceIte, Nat.reduceEqDiff, Nat.reduceAdd, wz]; rfl)), by omega, by rw [Nat.add_zero, setB_nil]; exact Q1⟩ ?_
        rintro tm hh ⟨t0, t1, t2, t6, D, j, ps', t7, hj, Q'⟩
        simp only [wk, wt, wl, ↓reduceIte, Nat.reduceEqDiff, Nat.reduceAdd, wz, t0, t1, t2, t6, t7]
        refine condK_dec (fun hd => ?_) (fun hd => ?_)
        · have hlb : (setB (X.cells.set (F - 1) (bl 0)) F (F + j)).length = X.cells.length := by rw [setB_len, List.length_set]
          have HH := Ch.wf D
          obtain ⟨h5, ps5, e5, Q5, D5⟩ := Q'.blankAt (i := F + j) HH (by show F + j < (setB (X.cells.set (F - 1) (bl 0)) F (F + j)).length; rw [hlb]; omega)
          simp only [setB_succ (show F + j < ((X.cells.set (F - 1) (bl 0))).length by rw [List.length_set]; omega)] at Q5
          have IX := Q'.gp.index (z := ((F + j : Nat) : Int)) (by omega) (by show ((F + j : Nat) : Int) < ((setB (X.cells.set (F - 1) (bl 0)) F (F + j)).length : Int); rw [hlb]; omega)
          simp only [Int.toNat_natCast] at IX
          have wj : IntKind.i64.wrap (((F + j : Nat) : Int) + 1) = ((F + (j + 1) : Nat) : Int) := by rw [IntWalk.i64_in _ (by omega)]; omega
          simp only [wk, wt, wl, ↓reduceIte, Nat.reduceEqDiff, Nat.reduceAdd, wz, t0, t1, t2, t6, t7, build_cell1, IX, e5, wj, intOf_int]
          exact ⟨⟨D.thenR D5, j + 1, _, rfl, by omega, Q5⟩, by omega⟩
        · obtain rfl : T = F + j := by omega
          simp only [wk, wt, wl, ↓reduceIte, Nat.reduceEqDiff, Nat.reduceAdd, wz]
          rw [← hwl]
          exact ⟨⟨_, _, _, _, _, _, _, Q'⟩, D⟩
    · have d2 : decide ((p.2.tx.length : Int) = 0) = false := decide_eq_false fun e => c1 (List.eq_nil_of_length_eq_zero (by omega))
      obtain ⟨w, hwd, lw, IT⟩ := step Q (Keeps.refl H).rg rfl rfl
      cases w with
      | true =>
        have hw2 := hw hft hwd
        obtain ⟨h2, ps2, e2, Q2, D2⟩ := Q.blankAt (i := T) H hw2
        have IT2 := Q.gp.index (z := (T : Int)) (by omega) (by omega)
        simp only [Int.toNat_natCast] at IT2
        have hwl := wipe_parts (l := X.cells) hft hT (he hft) (hw hft) rfl rfl
        rw [gF, if_neg c1, if_pos hwd] at hwl
        simp only [wk, wt, wl, ↓reduceIte, Nat.reduceEqDiff, Nat.reduceAdd, wz, pt, l2, d1, IF, a1, a5, LF, d2, build_cell1, wT, IT, lw, IT2, e2]
        refine W_loop (fun tm hh => tm 0 = pt x ∧ tm 1 = .int .i64 (F : Int) ∧ tm 2 = .int .i64 (T : Int) ∧ tm 6 = cv ∧ Ch (Rg Fs h) h hh ∧ ∃ (j : Nat) (ps : List PC), tm 7 = .int .i64 ((F + j : Nat) : Int) ∧ F + j ≤ T ∧ DX hh Fs x { X with cells := setB (X.cells.set T (bl 0)) F (F + j) } cv sv rv ps C S R)
          (fun tm _ => ((T : Int) - intOf (tm 7)).toNat) ⟨(by first | rfl | (simp only [wk, wt, wl, ↓reduceIte, Nat.reduceEqDiff, Nat.reduceAdd, wz]; done) | (simp only [wk, wt, wl, ↓reduceIte, Nat.reduceEqDiff, Nat.reduceAdd, wz]; rfl)), (by first | rfl | (simp only [wk, wt, wl, ↓reduceIte, Nat.reduceEqDiff, Nat.reduceAdd, wz]; done) | (simp only [wk, wt, wl, ↓reduceIte, Nat.reduceEqDiff, Nat.reduceAdd, wz]; rfl)), (by first | rfl | (simp only [wk, wt, wl, ↓reduceIte, Nat.reduceEqDiff, Nat.reduceAdd, wz]; done) | (simp only [wk, wt, wl, ↓reduceIte, Nat.reduceEqDiff, Nat.reduceAdd, wz]; rfl)), (by first | rfl | (simp only [wk, wt, wl, ↓reduceIte, Nat.reduceEqDiff, Nat.reduceAdd, wz]; done) | (simp only [wk, wt, wl, ↓reduceIte, Nat.reduceEqDiff, Nat.reduceAdd, wz]; rfl)), D2, 0, _, (by first | rfl | (simp only [wk, wt, wl, ↓reduceIte, Nat.reduceEqDiff, Nat.reduceAdd, wz]; done) | (simp only [wk, wt, wl, ↓reduceIte, Nat.reduceEqDiff, Nat.reduceAdd, wz]; rfl)), by omega, by rw [Nat.add_zero, setB_nil]; exact Q2⟩ ?_
        rintro tm hh ⟨t0, t1, t2, t6, D, j, ps', t7, hj, Q'⟩
        simp only [wk, wt, wl, ↓reduceIte, Nat.reduceEqDiff, Nat.reduceAdd, wz, t0, t1, t2, t6, t7]
        refine condK_dec (fun hd => ?_) (fun hd => ?_)
        · have hlb : (setB (X.cells.set T (bl 0)) F (F + j)).length = X.cells.length := by rw [setB_len, List.length_set]
          have HH := Ch.wf D
          obtain ⟨h5, ps5, e5, Q5, D5⟩ := Q'.blankAt (i := F + j) HH (by show F + j < (setB (X.cells.set T (bl 0)) F (F + j)).length; rw [hlb]; omega)
          simp only [setB_succ (show F + j < ((X.cells.set T (bl 0))).length by rw [List.length_set]; omega)] at Q5
          have IX := Q'.gp.index (z := ((F + j : Nat) : Int)) (by omega) (by show ((F + j : Nat) : Int) < ((setB (X.cells.set T (bl 0)) F (F + j)).length : Int); rw [hlb]; omega)
          simp only [Int.toNat_natCast] at IX
          have wj : IntKind.i64.wrap (((F + j : Nat) : Int) + 1) = ((F + (j + 1) : Nat) : Int) := by rw [IntWalk.i64_in _ (by omega)]; omega
          simp only [wk, wt, wl, ↓reduceIte, Nat.reduceEqDiff, Nat.reduceAdd, wz, t0, t1, t2, t6, t7, build_cell1, IX, e5, wj, intOf_int]
          exact ⟨⟨D.thenR D5, j + 1, _, rfl, by omega, Q5⟩, by omega⟩
        · obtain rfl : T = F + j := by omega
          simp only [wk, wt, wl, ↓reduceIte, Nat.reduceEqDiff, Nat.reduceAdd, wz]
          rw [← hwl]
          exact ⟨⟨_, _, _, _, _, _, _, Q'⟩, D⟩
      | false =>
        have hwl := wipe_parts (l := X.cells) hft hT (he hft) (hw hft) rfl rfl
        rw [gF, if_neg c1, if_neg (by rw [hwd]; decide)] at hwl
        simp only [wk, wt, wl, ↓reduceIte, Nat.reduceEqDiff, Nat.reduceAdd, wz, pt, l2, d1, IF, a1, a5, LF, d2, build_cell1, wT, IT, lw]
        refine W_loop (fun tm hh => tm 0 = pt x ∧ tm 1 = .int .i64 (F : Int) ∧ tm 2 = .int .i64 (T : Int) ∧ tm 6 = cv ∧ Ch (Rg Fs h) h hh ∧ ∃ (j : Nat) (ps : List PC), tm 7 = .int .i64 ((F + j : Nat) : Int) ∧ F + j ≤ T ∧ DX hh Fs x { X with cells := setB X.cells F (F + j) } cv sv rv ps C S R)
          (fun tm _ => ((T : Int) - intOf (tm 7)).toNat) ⟨(by first | rfl | (simp only [wk, wt, wl, ↓reduceIte, Nat.reduceEqDiff, Nat.reduceAdd, wz]; done) | (simp only [wk, wt, wl, ↓reduceIte, Nat.reduceEqDiff, Nat.reduceAdd, wz]; rfl)), (by first | rfl | (simp only [wk, wt, wl, ↓reduceIte, Nat.reduceEqDiff, Nat.reduceAdd, wz]; done) | (simp only [wk, wt, wl, ↓reduceIte, Nat.reduceEqDiff, Nat.reduceAdd, wz]; rfl)), (by first | rfl | (simp only [wk, wt, wl, ↓reduceIte, Nat.reduceEqDiff, Nat.reduceAdd, wz]; done) | (simp only [wk, wt, wl, ↓reduceIte, Nat.reduceEqDiff, Nat.reduceAdd, wz]; rfl)), (by first | rfl | (simp only [wk, wt, wl, ↓reduceIte, Nat.reduceEqDiff, Nat.reduceAdd, wz]; done) | (simp only [wk, wt, wl, ↓reduceIte, Nat.reduceEqDiff, Nat.reduceAdd, wz]; rfl)), (Keeps.refl H).rg, 0, _, (by first | rfl | (simp only [wk, wt, wl, ↓reduceIte, Nat.reduceEqDiff, Nat.reduceAdd, wz]; done) | (simp only [wk, wt, wl, ↓reduceIte, Nat.reduceEqDiff, Nat.reduceAdd, wz]; rfl)), by omega, by rw [Nat.add_zero, setB_nil]; exact Q⟩ ?_
        rintro tm hh ⟨t0, t1, t2, t6, D, j, ps', t7, hj, Q'⟩
        simp only [wk, wt, wl, ↓reduceIte, Nat.reduceEqDiff, Nat.reduceAdd, wz, t0, t1, t2, t6, t7]
        refine condK_dec (fun hd => ?_) (fun hd => ?_)
        · have hlb : (setB X.cells F (F + j)).length = X.cells.length := by rw [setB_len, show X.cells.length = X.cells.length from rfl]
          have HH := Ch.wf D
          obtain ⟨h5, ps5, e5, Q5, D5⟩ := Q'.blankAt (i := F + j) HH (by show F + j < (setB X.cells F (F + j)).length; rw [hlb]; omega)
          simp only [setB_succ (show F + j < (X.cells).length by rw [show X.cells.length = X.cells.length from rfl]; omega)] at Q5
          have IX := Q'.gp.index (z := ((F + j : Nat) : Int)) (by omega) (by show ((F + j : Nat) : Int) < ((setB X.cells F (F + j)).length : Int); rw [hlb]; omega)
          simp only [Int.toNat_natCast] at IX
          have wj : IntKind.i64.wrap (((F + j : Nat) : Int) + 1) = ((F + (j + 1) : Nat) : Int) := by rw [IntWalk.i64_in _ (by omega)]; omega
          simp only [wk, wt, wl, ↓reduceIte, Nat.reduceEqDiff, Nat.reduceAdd, wz, t0, t1, t2, t6, t7, build_cell1, IX, e5, wj, intOf_int]
          exact ⟨⟨D.thenR D5, j + 1, _, rfl, by omega, Q5⟩, by omega⟩
        · obtain rfl : T = F + j := by omega
          simp only [wk, wt, wl, ↓reduceIte, Nat.reduceEqDiff, Nat.reduceAdd, wz]
          rw [← hwl]
          exact ⟨⟨_, _, _, _, _, _, _, Q'⟩, D⟩
  · have d1 : decide ((F : Int) < (T : Int)) = false := decide_eq_false (by omega)
    have hwl : wipeL X.cells F T = X.cells := by unfold wipeL; rw [if_neg hft]
    rw [hwl]
    simp only [wk, wt, wl, ↓reduceIte, Nat.reduceEqDiff, Nat.reduceAdd, wz, pt, l2, d1]
    refine W_loop (fun tm hh => hh = h ∧ tm 1 = .int .i64 (F : Int) ∧ tm 2 = .int .i64 (T : Int) ∧ tm 7 = .int .i64 (F : Int)) (fun _ _ => 0) ⟨rfl, (by first | rfl | (simp only [wk, wt, wl, ↓reduceIte, Nat.reduceEqDiff, Nat.reduceAdd, wz]; done) | (simp only [wk, wt, wl, ↓reduceIte, Nat.reduceEqDiff, Nat.reduceAdd, wz]; rfl)), (by first | rfl | (simp only [wk, wt, wl, ↓reduceIte, Nat.reduceEqDiff, Nat.reduceAdd, wz]; done) | (simp only [wk, wt, wl, ↓reduceIte, Nat.reduceEqDiff, Nat.reduceAdd, wz]; rfl)), (by first | rfl | (simp only [wk, wt, wl, ↓reduceIte, Nat.reduceEqDiff, Nat.reduceAdd, wz]; done) | (simp only [wk, wt, wl, ↓reduceIte, Nat.reduceEqDiff, Nat.reduceAdd, wz]; rfl))⟩ ?_
    rintro tm hh ⟨rfl, t1, t2, t7⟩
    simp only [wk, wt, wl, ↓reduceIte, Nat.reduceEqDiff, Nat.reduceAdd, wz, t1, t2, t7, d1]
    exact ⟨⟨_, _, _, _, _, _, _, Q⟩, (Keeps.refl H).rg⟩
end Go.Proofs.YthmpaddhmgnkbaaDoor.Am
end
section
/- The document's terminal: the contract of typed, by a walk. -/
set_option linter.unusedSimpArgs false
set_option linter.unusedVariables false
set_option maxHeartbeats 4000000
set_option maxRecDepth 20000
namespace Go.Proofs.YthmpaddhmgnkbaaDoor.Am
open Go Go.RowKit Go.Proofs.Tryd
theorem refWipeI_ok {h : Heap} {Fs : Nat → Prop} {x : Nat} {X : TX} {F T : Nat} (P : DY h Fs x X) (I : Inv X) (hT : T ≤ X.cells.length) :
    ACalls prog 69 #[pt x, .int .i64 F, .int .i64 T] h (fun y h' => y = .tuple #[] ∧ DY h' Fs x { X with cells := wipeL X.cells F T } ∧ Ch (Rg Fs h) h h') := by
  obtain ⟨A, hA, hAl, hlen, _⟩ := I.rowA
  refine refWipe_ok P hT hlen (fun hlt he => ?_) (fun hlt he => ?_)
  · have hi : F < X.cells.length := by omega
    have hx : X.cells[F]? = some X.cells[F] := List.getElem?_eq_getElem hi
    rw [getD_at hx] at he
    obtain ⟨j, d, h1, _⟩ := I.emp _ _ hx he
    omega
  · have hi : T - 1 < X.cells.length := by omega
    have hx : X.cells[T - 1]? = some X.cells[T - 1] := List.getElem?_eq_getElem hi
    rw [getD_at hx] at he
    obtain ⟨d, h1, _⟩ := I.wid _ _ hx he
    have := (List.getElem?_eq_some_iff.1 h1).1
    omega
theorem grow2 {h hA : Heap} {b0 tv : Value} {tx : List Int} (H : Wf h) (KA : Keeps h hA) (O0 : Own prog h.size hA 1 b0 0 []) (hb0 : ∀ z, blkOf b0 = some z → h.size ≤ z) (RT : RdI prog h .i32 tv tx) (hl : tx.length ≤ 1000) :
    ∃ v2 h2, aappend prog hA 43 43 b0 tv = some (v2, h2) ∧ Own prog h.size h2 1 v2 tx.length (tx.map (Value.int .i32)) ∧ Keeps h h2 ∧ Reads hA h2 ∧ (∀ z, blkOf v2 = some z → h.size ≤ z) ∧ hA.size ≤ h2.size := by
  obtain ⟨v2, h2, e2, O2, R2, C2, hv⟩ := O0.appendRd (P := prog) (Ch.wf KA) (Ch.le KA) underlying43 underlying43 rfl elem21 fits21 (by decide) (RT.keeps KA) (by omega)
  rw [Nat.zero_add, List.nil_append] at O2
  exact ⟨v2, h2, e2, O2, KA.step C2 fun b hb => hb.2, R2, fun z hz => by
    rcases hv with rfl | rfl | rfl
    · exact hb0 z hz
    · cases hz
    · have := blk_new z hz; have := Ch.le KA; omega, Ch.le C2⟩
theorem grow1 {h h2 : Heap} {v2 xv : Value} {tx : List Int} {r : Int} (K2 : Keeps h h2) (O2 : Own prog h.size h2 1 v2 tx.length (tx.map (Value.int .i32))) (hb2 : ∀ z, blkOf v2 = some z → h.size ≤ z) (RX : Rd prog h2 1 xv 1 [.int .i32 r]) (hl : tx.length ≤ 1000) :
    ∃ v3 h3, aappend prog h2 43 43 v2 xv = some (v3, h3) ∧ RdI prog h3 .i32 v3 (tx ++ [r]) ∧ Keeps h h3 ∧ Reads h2 h3 ∧ (∀ z, blkOf v3 = some z → h.size ≤ z) := by
  obtain ⟨v3, h3, e3, O3, R3, C3, hv⟩ := O2.appendRd (P := prog) (Ch.wf K2) (Ch.le K2) underlying43 underlying43 rfl elem21 fits21 (by decide) RX (by omega)
  exact ⟨v3, h3, e3, by have := O3.1; simpa [RdI] using this, K2.step C3 fun b hb => hb.2, R3, fun z hz => by
    rcases hv with rfl | rfl | rfl
    · exact hb2 z hz
    · cases hz
    · have := blk_new z hz; have := Ch.le K2; omega⟩
theorem typed_bad {h : Heap} {Fs : Nat → Prop} {x : Nat} {X : TX} {r : Int} (P : DY h Fs x X) (hr : isR r) (hs : showL r ≠ [r]) :
    ACalls prog 47 #[pt x, .int .i32 r] h (fun y h' => y = .tuple #[] ∧ DY h' Fs x (putX X r) ∧ Ch (Rg Fs h) h h') := by
  refine acalls_of_W' func47 rfl (by kernel_rfl) (by kernel_rfl) (by simp [ntmps47]) ?_
  intro H
  obtain ⟨cv, sv, rv, ps, C, S, R, Q⟩ := P
  simp only [wk, wt, wl, ↓reduceIte, Nat.reduceEqDiff, Nat.reduceAdd, wz]
  refine (refShow_ok hr).use_pure ?_
  have N1 := Keeps.new H 21 ((showL r).map (Value.int .i32))
  have R1 : RdI prog (h.new 21 ((showL r).map (Value.int .i32))) .i32 (.slice (some ⟨h.size, 0, none⟩) (showL r).length ((showL r).length + 1)) (showL r) := rdI_new H
  have Q1 := Q.keeps H N1
  obtain ⟨h2, e2, V2, C2, z2⟩ := Q1.var.store1 (P := prog) (t := 3) (v := .int .i64 (-1)) (i := 7) (Ch.wf N1) asz3 (by simp [dF]) rfl
  obtain ⟨Q2, D2⟩ := Q1.own (X' := { X with last := none }) (Ch.wf N1) C2 V2 rfl rfl rfl
  have hp : putX X r = { X with last := none } := by unfold putX; rw [if_pos hs]
  rw [hp]
  have LL := R1.len underlying43
  have fin : DY h2 Fs x { X with last := none } ∧ Ch (Rg Fs h) h h2 := ⟨⟨_, _, _, _, _, _, _, Q2⟩, N1.rg.thenR D2⟩
  rcases show_cases r with g | ⟨_, g⟩ | ⟨y, g, hx⟩
  · exact absurd g hs
  · have d1 : decide (¬ ((showL r).length : Int) = 1) = true := decide_eq_true (by omega)
    simp only [wk, wt, wl, ↓reduceIte, Nat.reduceEqDiff, Nat.reduceAdd, wz, LL, d1, pt, e2]
    exact fin
  · have d1 : decide (¬ ((showL r).length : Int) = 1) = false := decide_eq_false (by rw [g]; simp)
    have IX := R1.index underlying43 asz21 (q := .i64) (i := (0 : Int)) (by omega) (by rw [g]; simp)
    have LX := R1.at (i := 0) (t := 21) underlying21 rfl (by rw [g]; simp)
    have hx0 : (showL r).getD 0 0 = y := by rw [g]; rfl
    rw [hx0] at LX
    simp only [show (0 : Int).toNat = 0 from rfl] at IX
    have d2 : decide (¬ y = r) = true := decide_eq_true hx
    simp only [wk, wt, wl, ↓reduceIte, Nat.reduceEqDiff, Nat.reduceAdd, wz, LL, d1, IX, LX, d2, pt, e2]
    exact fin
theorem typed_zero {h : Heap} {Fs : Nat → Prop} {x : Nat} {X : TX} {r : Int} (P : DY h Fs x X) (I : Inv X) (hr : isR r) (hs : showL r = [r]) (hw : widthZ r = 0) :
    ACalls prog 47 #[pt x, .int .i32 r] h (fun y h' => y = .tuple #[] ∧ DY h' Fs x (putX X r) ∧ Ch (Rg Fs h) h h') := by
  refine acalls_of_W' func47 rfl (by kernel_rfl) (by kernel_rfl) (by simp [ntmps47]) ?_
  intro H
  obtain ⟨cv, sv, rv, ps, C, S, R, Q⟩ := P
  simp only [wk, wt, wl, ↓reduceIte, Nat.reduceEqDiff, Nat.reduceAdd, wz]
  refine (refShow_ok hr).use_pure ?_
  rw [hs]
  have N1 := Keeps.new H 21 ([r].map (Value.int .i32))
  have R1 : RdI prog (h.new 21 ([r].map (Value.int .i32))) .i32 (.slice (some ⟨h.size, 0, none⟩) [r].length ([r].length + 1)) [r] := rdI_new H
  have Q1 := Q.keeps H N1
  have LL := R1.len underlying43
  have IX := R1.index underlying43 asz21 (q := .i64) (i := (0 : Int)) (by omega) (by simp)
  have LX := R1.at (i := 0) (t := 21) underlying21 rfl (by simp)
  have hx0 : [r].getD 0 0 = r := rfl
  rw [hx0] at LX
  simp only [show (0 : Int).toNat = 0 from rfl] at IX
  have d1 : decide (¬ (([r].length : Nat) : Int) = 1) = false := decide_eq_false (by simp)
  have d2 : decide (¬ r = r) = false := decide_eq_false (by simp)
  generalize h.new 21 ([r].map (Value.int .i32)) = h1 at *
  simp only [wk, wt, wl, ↓reduceIte, Nat.reduceEqDiff, Nat.reduceAdd, wz, LL, d1, IX, LX, d2]
  refine refWidth_ok.use_pure ?_
  obtain ⟨l0, l1, l2, l3, l4, l5, l6, l7, l8, l9, l10⟩ := Q1.load
  have d3 : decide (widthZ r = 0) = true := decide_eq_true hw
  simp only [wk, wt, wl, ↓reduceIte, Nat.reduceEqDiff, Nat.reduceAdd, wz, d3, pt]
  refine adraw_order [(0, false), (1, false), (2, false), (3, false), (4, false), (5, false), (6, false), (7, false), (8, false), (9, false), (10, false), (11, false), (12, false), (13, false), (14, false), (15, false), (16, false), (17, false), (18, false), (19, false), (20, false)] mixed (by kernel_rfl) (by kernel_rfl) (by kernel_rfl) (by with_reducible repeat (first | exact PF_retK | refine PF_thenK ?_ | refine PF_blockK ?_)) ?_
  cases hl : X.last with
  | none =>
    have hp : putX X r = X := by unfold putX; rw [if_neg (fun e => e hs), if_pos hw, hl]
    rw [hp]
    rw [hl] at l7
    have d4 : decide ((0 : Int) ≤ -1) = false := by decide
    simp only [lastZ] at l7
    simp only [wk, wt, wl, ↓reduceIte, Nat.reduceEqDiff, Nat.reduceAdd, wz, dK_t, l7, pt, d4]
    exact ⟨⟨_, _, _, _, _, _, _, Q1⟩, N1.rg⟩
  | some i =>
    have hi : i < X.cells.length := by
      obtain ⟨c0, hc0, _⟩ := I.last i hl
      exact (List.getElem?_eq_some_iff.1 hc0).1
    obtain ⟨p, p1, p2, p3⟩ := Q1.gp.at hi
    obtain ⟨a1, a2, a3, a4, a5⟩ := Q1.gp.loads p1
    have RT := Q1.gp.rd p p3
    have LT := RT.len underlying43
    have IC := Q1.gp.index (z := (i : Int)) (by omega) (by omega)
    simp only [Int.toNat_natCast] at IC
    rw [hl] at l7
    simp only [lastZ] at l7
    have d4 : decide ((0 : Int) ≤ (i : Int)) = true := decide_eq_true (by omega)
    by_cases h3 : p.2.tx.length ≤ 2
    · have d5 : decide ((p.2.tx.length : Int) ≤ 2) = true := decide_eq_true (by omega)
      have hp : putX X r = { X with cells := X.cells.set i { p.2 with tx := p.2.tx ++ [r] } } := by unfold putX; rw [if_neg (fun e => e hs), if_pos hw, hl]; simp only [getD_at p2]; rw [if_pos h3]
      rw [hp]
      have H1 := Ch.wf N1
      have fin : ∀ {h3 : Heap} {v3 : Value}, Keeps h1 h3 → RdI prog h3 .i32 v3 (p.2.tx ++ [r]) → (∀ z, blkOf v3 = some z → h1.size ≤ z) → ∃ h4, storeV prog h3 43 (.pointer (some ⟨(eltA cv 3 i).block, (eltA cv 3 i).off + 0, none⟩)) v3 = some (undef, h4) ∧ DY h4 Fs x { X with cells := X.cells.set i { p.2 with tx := p.2.tx ++ [r] } } ∧ Ch (Rg Fs h) h h4 := fun {h3 v3} K3 R3 hb3 => by
        have Q2 := Q1.keeps H1 K3
        obtain ⟨h4, es, G4, C4, z4⟩ := Q2.gp.fld (t := 43) (v := v3) (q := (v3, { p.2 with tx := p.2.tx ++ [r] })) (Ch.wf K3) (Q2.fc.mono fun n a => .inl a) p1 (by decide : 0 < 3) asz43 R3.one rfl R3 (Q1.fresh K3 hb3)
        obtain ⟨Q4, D4⟩ := Q2.cells (Ch.wf K3) C4 G4
        exact ⟨h4, es, ⟨_, _, _, _, _, _, _, Q4⟩, (N1.rg.thenR K3.rg).thenR D4⟩
      -- the three orders
      have hz0 : (h1.new 21 []).size = h1.size + 1 := rfl
      have hzx : (h1.new 21 [.int .i32 r]).size = h1.size + 1 := rfl
      have NA := Keeps.new H1 21 []
      have OA : Own prog h1.size (h1.new 21 []) 1 (.slice (some ⟨h1.size, 0, none⟩) 0 1) 0 [] := Own.new H1 (Nat.le_refl _) asz21 (by simp)
      obtain ⟨vA, hA, eA, OA2, KA, RA, bA, sA⟩ := grow2 H1 NA OA blk_new RT (by omega)
      have NA2 := Keeps.new (Ch.wf KA) 21 [.int .i32 r]
      have XA : Rd prog (hA.new 21 [.int .i32 r]) 1 (.slice (some ⟨hA.size, 0, none⟩) 1 2) 1 [.int .i32 r] := Rd.new (Ch.wf KA) asz21 rfl
      obtain ⟨wA, gA, fA, SA, KA3, RA3, cA⟩ := grow1 (KA.trans NA2) (OA2.keeps NA2) bA XA (by omega)
      obtain ⟨kA, stA, FA⟩ := fin KA3 SA cA
      have NB := Keeps.new (Ch.wf NA) 21 [.int .i32 r]
      have XB : Rd prog ((h1.new 21 []).new 21 [.int .i32 r]) 1 (.slice (some ⟨h1.size + 1, 0, none⟩) 1 2) 1 [.int .i32 r] := Rd.new (Ch.wf NA) asz21 rfl
      obtain ⟨vB, hB, eB, OB2, KB, RB, bB, sB⟩ := grow2 H1 (NA.trans NB) (OA.keeps NB) blk_new RT (by omega)
      obtain ⟨wB, gB, fB, SB, KB3, RB3, cB⟩ := grow1 KB OB2 bB (XB.reads sB RB) (by omega)
      obtain ⟨kB, stB, FB⟩ := fin KB3 SB cB
      have NC := Keeps.new H1 21 [.int .i32 r]
      have XC : Rd prog (h1.new 21 [.int .i32 r]) 1 (.slice (some ⟨h1.size, 0, none⟩) 1 2) 1 [.int .i32 r] := Rd.new H1 asz21 rfl
      have NC2 := Keeps.new (Ch.wf NC) 21 []
      have OC : Own prog h1.size ((h1.new 21 [.int .i32 r]).new 21 []) 1 (.slice (some ⟨h1.size + 1, 0, none⟩) 0 1) 0 [] := Own.new (Ch.wf NC) (by rw [hzx]; omega) asz21 (by simp)
      obtain ⟨vC, hC, eC, OC2, KC, RC, bC, sC⟩ := grow2 H1 (NC.trans NC2) OC (fun z hz => Nat.le_of_succ_le (blk_new z hz)) RT (by omega)
      obtain ⟨wC, gC, fC, SC, KC3, RC3, cC'⟩ := grow1 KC OC2 bC ((XC.keeps NC2).reads sC RC) (by omega)
      obtain ⟨kC, stC, FC⟩ := fin KC3 SC cC'
      have B0 : ∀ h : Heap, abuildSlice prog h 43 0 #[] = some (.slice (some ⟨h.size, 0, none⟩) 0 1, h.new 21 []) := fun h => build0 underlying43 asz21
      have B1 : ∀ h : Heap, abuildSlice prog h 43 1 #[(0, .int .i32 r)] = some (.slice (some ⟨h.size, 0, none⟩) 1 2, h.new 21 [.int .i32 r]) := fun h => build1 underlying43 asz21 azero21 rfl rfl
      have HR := fun {h2 : Heap} (K : Keeps h1 h2) => K.reads H1
      have ldN := fun {h2 : Heap} (K : Keeps h1 h2) => (Q1.keeps H1 K).load
      have ldC := fun {h2 : Heap} (K : Keeps h1 h2) => (((Q1.keeps H1 K).gp).loads p1).1
      simp only [wk, wt, wl, ↓reduceIte, Nat.reduceEqDiff, Nat.reduceAdd, wz, dK_t, l7, pt, d4, l2, IC, a1, a5, LT, d5]
      refine adraw_tree (.cons 0 false (.cons 1 false (.cons 2 false (.cons 3 false (.cons 4 false (.cons 5 false (.cons 6 false (.cons 7 false (.cons 8 false (.cons 10 false (.cons 11 false (.cons 12 false (.cons 13 false (.cons 14 false (.cons 15 false (.cons 16 false (.cons 17 false (.cons 18 false (.cons 19 false (.cons 20 false (.cons 21 false (.cons 23 false (.two 9 24 (.two 22 24 (.cons 24 true (.cons 25 true (.cons 26 false (.cons 27 false (.cons 28 false .nil))))) (.cons 22 true (.cons 25 true (.cons 26 false (.cons 27 false (.cons 28 false .nil)))))) (.cons 9 true (.cons 22 true (.cons 25 true (.cons 26 false (.cons 27 false (.cons 28 false .nil))))))))))))))))))))))))))))) mixed (by kernel_rfl) (by kernel_rfl) (by kernel_rfl) (by with_reducible repeat (first | exact PF_retK | refine PF_thenK ?_ | refine PF_blockK ?_)) ?_
      simp only [wk, wt, wl, ↓reduceIte, Nat.reduceEqDiff, Nat.reduceAdd, wz, TRo_nil, TRo_cons, TRo_two, trK_some, dK_t, pt, l2, l7, IC, a1, B0, B1, hz0, hzx, eA, fA, stA, eB, fB, stB, eC, fC, stC]
      exact ⟨⟨NA.reads H1, ⟨RA, NA2.reads (Ch.wf KA), RA3, FA⟩, NB.reads (Ch.wf NA), RB, RB3, FB⟩, NC.reads H1, NC2.reads (Ch.wf NC), RC, RC3, FC⟩
    · have d5 : decide ((p.2.tx.length : Int) ≤ 2) = false := decide_eq_false (by omega)
      have hp : putX X r = X := by unfold putX; rw [if_neg (fun e => e hs), if_pos hw, hl]; simp only [getD_at p2]; rw [if_neg h3]
      rw [hp]
      simp only [wk, wt, wl, ↓reduceIte, Nat.reduceEqDiff, Nat.reduceAdd, wz, dK_t, l7, pt, d4, l2, IC, a1, a5, LT, d5]
      exact ⟨⟨_, _, _, _, _, _, _, Q1⟩, N1.rg⟩
theorem typed_wide {h : Heap} {Fs : Nat → Prop} {x : Nat} {X : TX} {r : Int} (P : DY h Fs x X) (I : Inv X) (hr : isR r) (hs : showL r = [r]) (hw : widthZ r ≠ 0) :
    ACalls prog 47 #[pt x, .int .i32 r] h (fun y h' => y = .tuple #[] ∧ DY h' Fs x (putX X r) ∧ Ch (Rg Fs h) h h') := by
  refine acalls_of_W' func47 rfl (by kernel_rfl) (by kernel_rfl) (by simp [ntmps47]) ?_
  intro H
  obtain ⟨cv, sv, rv, ps, C, S, R, Q⟩ := P
  simp only [wk, wt, wl, ↓reduceIte, Nat.reduceEqDiff, Nat.reduceAdd, wz]
  refine (refShow_ok hr).use_pure ?_
  rw [hs]
  have N1 := Keeps.new H 21 ([r].map (Value.int .i32))
  have R1 : RdI prog (h.new 21 ([r].map (Value.int .i32))) .i32 (.slice (some ⟨h.size, 0, none⟩) [r].length ([r].length + 1)) [r] := rdI_new H
  have Q1 := Q.keeps H N1
  have LL := R1.len underlying43
  have IX := R1.index underlying43 asz21 (q := .i64) (i := (0 : Int)) (by omega) (by simp)
  have LX := R1.at (i := 0) (t := 21) underlying21 rfl (by simp)
  have hx0 : [r].getD 0 0 = r := rfl
  rw [hx0] at LX
  simp only [show (0 : Int).toNat = 0 from rfl] at IX
  have d1 : decide (¬ (([r].length : Nat) : Int) = 1) = false := decide_eq_false (by simp)
  have d2 : decide (¬ r = r) = false := decide_eq_false (by simp)
  generalize h.new 21 ([r].map (Value.int .i32)) = h1 at *
  simp only [wk, wt, wl, ↓reduceIte, Nat.reduceEqDiff, Nat.reduceAdd, wz, LL, d1, IX, LX, d2]
  refine refWidth_ok.use_pure ?_
  obtain ⟨l0, l1, l2, l3, l4, l5, l6, l7, l8, l9, l10⟩ := Q1.load
  have d3 : decide (widthZ r = 0) = false := decide_eq_false hw
  obtain ⟨A, hA, hAl, hlen, _⟩ := I.rowA
  have hwl := widthZ_le r
  obtain ⟨w, ew⟩ : ∃ w : Nat, widthZ r = (w : Int) := ⟨(widthZ r).toNat, by omega⟩
  have hput0 : putX X r = putAt X r (w : Int) := by unfold putX; rw [if_neg (fun e => e hs), if_neg hw, ew]
  rw [ew] at hw hwl d3
  have hc := I.c; have hcol := I.col; have hr2 := I.r; have hrow := I.row
  have M1 := imin_spec X.col (X.cols - (w : Int))
  obtain ⟨k, hk⟩ : ∃ k : Nat, imin X.col (X.cols - (w : Int)) = (k : Int) := ⟨(imin X.col (X.cols - (w : Int))).toNat, by omega⟩
  have w1 : IntKind.i64.wrap (X.cols - (w : Int)) = X.cols - (w : Int) := IntWalk.i64_in _ (by omega)
  obtain ⟨h2, e2, V2, C2, z2⟩ := Q1.var.store1 (P := prog) (t := 3) (v := .int .i64 (k : Int)) (i := 4) (Ch.wf N1) asz3 (by simp [dF]) rfl
  obtain ⟨Q2, D2⟩ := Q1.own (X' := { X with col := (k : Int) }) (Ch.wf N1) C2 V2 rfl rfl rfl
  have I2 : Inv { X with col := (k : Int) } := ⟨I.r, I.c, I.n, I.row, ⟨by show (0 : Int) ≤ (k : Int); omega, by show (k : Int) < X.cols; omega⟩, I.emp, I.wid, I.nw, I.last⟩
  have D02 := N1.rg.thenR D2
  have P2 : DY h2 Fs x { X with col := (k : Int) } := ⟨_, _, _, _, _, _, _, Q2⟩
  rw [ew]
  simp only [wk, wt, wl, ↓reduceIte, Nat.reduceEqDiff, Nat.reduceAdd, wz, d3, pt]
  refine adraw_order [(0, false), (1, false), (2, false), (3, false), (4, false), (5, false), (6, false), (7, false), (8, false), (9, false), (10, false), (11, false), (12, false), (13, false), (14, false), (15, false), (16, false), (17, false)] mixed (by kernel_rfl) (by kernel_rfl) (by kernel_rfl) (by with_reducible repeat (first | exact PF_retK | refine PF_thenK ?_ | refine PF_blockK ?_)) ?_
  simp only [wk, wt, wl, ↓reduceIte, Nat.reduceEqDiff, Nat.reduceAdd, wz, dK_t, pt, l4, l1, w1, mnV, hk, e2]
  refine (refAt_ok P2 I2).use_pure ?_
  have hat : ({ X with col := (k : Int) } : TX).row * ({ X with col := (k : Int) } : TX).cols + ({ X with col := (k : Int) } : TX).col = ((A + k : Nat) : Int) := by show X.row * X.cols + (k : Int) = _; rw [hA]; omega
  rw [hat]
  have wik : IntKind.i64.wrap (((A + k : Nat) : Int) + (w : Int)) = ((A + k + w : Nat) : Int) := by rw [IntWalk.i64_in _ (by omega)]; omega
  simp only [wk, wt, wl, ↓reduceIte, Nat.reduceEqDiff, Nat.reduceAdd, wz, pt, wik]
  refine (refWipeI_ok (F := A + k) (T := A + k + w) P2 I2 (by show A + k + w ≤ X.cells.length; omega)).use ?_
  rintro _ h3 ⟨rfl, P3, C3⟩
  obtain ⟨cv3, sv3, rv3, ps3, C', S', R', Q3⟩ := P3
  have D03 := D02.thenR C3
  have hwll : (wipeL X.cells (A + k) (A + k + w)).length = X.cells.length := wipeL_len
  obtain ⟨m0, m1, m2, m3, m4, m5, _⟩ := Q3.load
  have N4 := Keeps.new (Ch.wf C3) 21 [.int .i32 r]
  have R4 : RdI prog (h3.new 21 [.int .i32 r]) .i32 (.slice (some ⟨h3.size, 0, none⟩) 1 2) [r] := rdI_new (Ch.wf C3) (xs := [r])
  obtain ⟨h5, ps5, e5, Q5, D5⟩ := Q3.putCell (i := A + k) (c := ⟨[r], X.attr, decide ((w : Int) = 2)⟩) (Ch.wf C3) N4 (by show A + k < (wipeL X.cells (A + k) (A + k + w)).length; omega) R4 blk_new
  have IX5 := Q3.gp.index (z := ((A + k : Nat) : Int)) (by omega) (by show ((A + k : Nat) : Int) < ((wipeL X.cells (A + k) (A + k + w)).length : Int); omega)
  simp only [Int.toNat_natCast] at IX5
  have D05 := D03.thenR D5
  have B1 : abuildSlice prog h3 43 1 #[(0, .int .i32 r)] = some (.slice (some ⟨h3.size, 0, none⟩) 1 2, h3.new 21 [.int .i32 r]) := build1 underlying43 asz21 azero21 rfl rfl
  have bc : abuild prog 45 #[(0, .slice (some ⟨h3.size, 0, none⟩) 1 2), (1, .int .i64 X.attr), (2, .bool (decide ((w : Int) = 2)))] = some (.agg #[.slice (some ⟨h3.size, 0, none⟩) 1 2, .int .i64 X.attr, .bool (decide ((w : Int) = 2))]) := by simp [abuild, wt, aplaces, Instr.fill, Value.cells]
  simp only [wk, wt, wl, ↓reduceIte, Nat.reduceEqDiff, Nat.reduceAdd, wz, pt]
  refine adraw_order [(0, false), (1, false), (2, false), (3, false), (4, false), (5, false), (6, false), (8, false), (9, false), (10, false), (11, false), (12, false), (13, false), (7, true), (14, false), (15, false), (16, false)] mixed (by kernel_rfl) (by kernel_rfl) (by kernel_rfl) (by with_reducible repeat (first | exact PF_retK | refine PF_thenK ?_ | refine PF_blockK ?_)) ?_
  simp only [wk, wt, wl, ↓reduceIte, Nat.reduceEqDiff, Nat.reduceAdd, wz, dK_t, pt, m2, B1, m5, bc, IX5, e5]
  try refine ⟨N4.reads (Ch.wf C3), ?_⟩
  have wkw : IntKind.i64.wrap ((k : Int) + (w : Int)) = (k : Int) + (w : Int) := IntWalk.i64_in _ (by omega)
  have wc1 : IntKind.i64.wrap (X.cols - 1) = X.cols - 1 := IntWalk.i64_in _ (by omega)
  have clamp2 : imin ((k : Int) + (w : Int)) (X.cols - 1) = clampZ ((k : Int) + (w : Int)) X.cols := by
    have M3 := imax_spec ((k : Int) + (w : Int)) 0
    have e : imax ((k : Int) + (w : Int)) 0 = (k : Int) + (w : Int) := by omega
    unfold clampZ; rw [e]
  by_cases h2 : (w : Int) = 2
  · have d4 : decide ((w : Int) = 2) = true := decide_eq_true h2
    have hput : putX X r = { X with cells := ((wipeL X.cells (A + k) (A + k + w)).set (A + k) ⟨[r], X.attr, decide ((w : Int) = 2)⟩).set (A + k + 1) ⟨[], X.attr, false⟩, last := some (A + k), col := clampZ ((k : Int) + (w : Int)) X.cols } := by
      rw [hput0]
      have e1 : ((A : Int) + (k : Int)).toNat = A + k := by omega
      simp only [putAt, hk, hA, e1, Int.toNat_natCast, if_pos h2]
    obtain ⟨n0, n1, n2, n3, n4, n5, _⟩ := Q5.load
    obtain ⟨h7, ps7, e7, Q7, D7⟩ := Q5.putCell (i := A + k + 1) (tv := .slice none 0 0) (c := ⟨[], X.attr, false⟩) (Ch.wf D5) (Keeps.refl (Ch.wf D5)) (by show A + k + 1 < ((wipeL X.cells (A + k) (A + k + w)).set (A + k) ⟨[r], X.attr, decide ((w : Int) = 2)⟩).length; rw [List.length_set]; omega) Rd.nil0 (fun z hz => by cases hz)
    have IX7 := Q5.gp.index (z := ((A + k + 1 : Nat) : Int)) (by omega) (by show ((A + k + 1 : Nat) : Int) < (((wipeL X.cells (A + k) (A + k + w)).set (A + k) ⟨[r], X.attr, decide ((w : Int) = 2)⟩).length : Int); rw [List.length_set]; omega)
    simp only [Int.toNat_natCast] at IX7
    have w7 : IntKind.i64.wrap (((A + k : Nat) : Int) + 1) = ((A + k + 1 : Nat) : Int) := by rw [IntWalk.i64_in _ (by omega)]; omega
    have bc7 : abuild prog 45 #[(1, .int .i64 X.attr)] = some (.agg #[.slice none 0 0, .int .i64 X.attr, .bool false]) := by simp [abuild, wt, aplaces, Instr.fill, Value.cells]
    have D07 := D05.thenR D7
    simp only [wk, wt, wl, ↓reduceIte, Nat.reduceEqDiff, Nat.reduceAdd, wz, d4, pt]
    refine adraw_order [(0, false), (1, false), (2, false), (3, false), (4, false), (5, false), (6, false), (7, false), (8, false), (9, false), (10, false), (11, false), (12, false), (13, false)] mixed (by kernel_rfl) (by kernel_rfl) (by kernel_rfl) (by with_reducible repeat (first | exact PF_retK | refine PF_thenK ?_ | refine PF_blockK ?_)) ?_
    simp only [wk, wt, wl, ↓reduceIte, Nat.reduceEqDiff, Nat.reduceAdd, wz, dK_t, pt, n2, n5, bc7, w7, IX7, e7]
    have Q8 := Q7
    obtain ⟨h9, e9, V9, C9, z9⟩ := Q8.var.store1 (P := prog) (t := 3) (v := .int .i64 ((A + k : Nat) : Int)) (i := 7) (Ch.wf D07) asz3 (by simp [dF]) rfl
    obtain ⟨Q9, D9⟩ := Q8.own (X' := { X with cells := (((wipeL X.cells (A + k) (A + k + w)).set (A + k) ⟨[r], X.attr, decide ((w : Int) = 2)⟩).set (A + k + 1) ⟨[], X.attr, false⟩), col := (k : Int), last := some (A + k) }) (Ch.wf D07) C9 V9 rfl rfl rfl
    obtain ⟨q0, q1', q2', q3', q4, _⟩ := Q9.load
    obtain ⟨hx, ex, Vx, Cx, zx⟩ := Q9.var.store1 (P := prog) (t := 3) (v := .int .i64 (clampZ ((k : Int) + (w : Int)) X.cols)) (i := 4) (Ch.wf C9) asz3 (by simp [dF]) rfl
    obtain ⟨Qx, Dx⟩ := Q9.own (X' := { X with cells := (((wipeL X.cells (A + k) (A + k + w)).set (A + k) ⟨[r], X.attr, decide ((w : Int) = 2)⟩).set (A + k + 1) ⟨[], X.attr, false⟩), last := some (A + k), col := clampZ ((k : Int) + (w : Int)) X.cols }) (Ch.wf C9) Cx Vx rfl rfl rfl
    simp only [wk, wt, wl, ↓reduceIte, Nat.reduceEqDiff, Nat.reduceAdd, wz, pt, e9]
    refine adraw_order [(0, false), (1, false), (2, false), (3, false), (4, false), (5, false), (6, false), (7, false), (8, false), (9, false), (10, false), (11, false), (12, false), (13, false), (14, false), (15, false), (16, false), (17, false), (18, false)] mixed (by kernel_rfl) (by kernel_rfl) (by kernel_rfl) (by with_reducible repeat (first | exact PF_retK | refine PF_thenK ?_ | refine PF_blockK ?_)) ?_
    simp only [wk, wt, wl, ↓reduceIte, Nat.reduceEqDiff, Nat.reduceAdd, wz, dK_t, pt, q4, q1', wkw, wc1, mnV, clamp2, ex]
    rw [hput]
    exact ⟨⟨_, _, _, _, _, _, _, Qx⟩, (D07.thenR D9).thenR Dx⟩
  · have d4 : decide ((w : Int) = 2) = false := decide_eq_false h2
    have hput : putX X r = { X with cells := (wipeL X.cells (A + k) (A + k + w)).set (A + k) ⟨[r], X.attr, decide ((w : Int) = 2)⟩, last := some (A + k), col := clampZ ((k : Int) + (w : Int)) X.cols } := by
      rw [hput0]
      have e1 : ((A : Int) + (k : Int)).toNat = A + k := by omega
      simp only [putAt, hk, hA, e1, Int.toNat_natCast, if_neg h2]
    simp only [wk, wt, wl, ↓reduceIte, Nat.reduceEqDiff, Nat.reduceAdd, wz, d4, pt]
    have Q8 := Q5
    obtain ⟨h9, e9, V9, C9, z9⟩ := Q8.var.store1 (P := prog) (t := 3) (v := .int .i64 ((A + k : Nat) : Int)) (i := 7) (Ch.wf D05) asz3 (by simp [dF]) rfl
    obtain ⟨Q9, D9⟩ := Q8.own (X' := { X with cells := ((wipeL X.cells (A + k) (A + k + w)).set (A + k) ⟨[r], X.attr, decide ((w : Int) = 2)⟩), col := (k : Int), last := some (A + k) }) (Ch.wf D05) C9 V9 rfl rfl rfl
    obtain ⟨q0, q1', q2', q3', q4, _⟩ := Q9.load
    obtain ⟨hx, ex, Vx, Cx, zx⟩ := Q9.var.store1 (P := prog) (t := 3) (v := .int .i64 (clampZ ((k : Int) + (w : Int)) X.cols)) (i := 4) (Ch.wf C9) asz3 (by simp [dF]) rfl
    obtain ⟨Qx, Dx⟩ := Q9.own (X' := { X with cells := ((wipeL X.cells (A + k) (A + k + w)).set (A + k) ⟨[r], X.attr, decide ((w : Int) = 2)⟩), last := some (A + k), col := clampZ ((k : Int) + (w : Int)) X.cols }) (Ch.wf C9) Cx Vx rfl rfl rfl
    simp only [wk, wt, wl, ↓reduceIte, Nat.reduceEqDiff, Nat.reduceAdd, wz, pt, e9]
    refine adraw_order [(0, false), (1, false), (2, false), (3, false), (4, false), (5, false), (6, false), (7, false), (8, false), (9, false), (10, false), (11, false), (12, false), (13, false), (14, false), (15, false), (16, false), (17, false), (18, false)] mixed (by kernel_rfl) (by kernel_rfl) (by kernel_rfl) (by with_reducible repeat (first | exact PF_retK | refine PF_thenK ?_ | refine PF_blockK ?_)) ?_
    simp only [wk, wt, wl, ↓reduceIte, Nat.reduceEqDiff, Nat.reduceAdd, wz, dK_t, pt, q4, q1', wkw, wc1, mnV, clamp2, ex]
    rw [hput]
    exact ⟨⟨_, _, _, _, _, _, _, Qx⟩, (D05.thenR D9).thenR Dx⟩
theorem refTyped_ok {h : Heap} {Fs : Nat → Prop} {x : Nat} {X : TX} {r : Int} (P : DY h Fs x X) (I : Inv X) (hr : isR r) :
    ACalls prog 47 #[pt x, .int .i32 r] h (fun y h' => y = .tuple #[] ∧ DY h' Fs x (putX X r) ∧ Ch (Rg Fs h) h h') := by
  by_cases hs : showL r = [r]
  · by_cases hw : widthZ r = 0
    · exact typed_zero P I hr hs hw
    · exact typed_wide P I hr hs hw
  · exact typed_bad P hr hs
end Go.Proofs.YthmpaddhmgnkbaaDoor.Am
end
section
/- The document's terminal: contracts of numbers and erase, by walks. -/
set_option linter.unusedSimpArgs false
set_option linter.unusedVariables false
set_option maxHeartbeats 4000000
set_option maxRecDepth 20000
namespace Go.Proofs.YthmpaddhmgnkbaaDoor.Am
open Go Go.RowKit Go.Proofs.Tryd
theorem refNumbers_ok {bv : Value} {b : List Int} {h : Heap} (R : RdI prog h .u8 bv b) (hb : ∀ x, x ∈ b → isB x) (hl : b.length ≤ 1000) :
    ACalls prog 66 #[bv] h (fun y h' => numsT h.size h' y (numsGo [] 0 b) ∧ Keeps h h') := by
  refine acalls_of_W' func66 rfl (by kernel_rfl) (by kernel_rfl) (by simp [ntmps66]) ?_
  intro H
  have N1 := Keeps.new H 3 [.int .i64 0]
  have O1 : OwnR prog (h.new 3 [.int .i64 0]) 1 (.slice (some ⟨h.size, 0, none⟩) 1 2) 1 (vL ([] ++ [0])) := OwnR.new H asz3 rfl
  simp only [wk, wt, wl, ↓reduceIte, Nat.reduceEqDiff, Nat.reduceAdd, wz, bsI]
  refine W_loop (fun tm hh => tm 0 = bv ∧ Keeps h hh ∧ ∃ (i : Nat) (l : List Int) (n : Int) (v : Value), tm 5 = .int .i64 (i : Int) ∧ tm 4 = v ∧ i ≤ b.length ∧ l.length ≤ i ∧ 0 ≤ n ∧ n ≤ 9999 ∧ OwnR prog hh 1 v (l.length + 1) (vL (l ++ [n])) ∧ Fam hh (fun m => h.size ≤ m) v ∧ numsGo [] 0 b = numsGo l n (b.drop i))
    (fun tm _ => (b.length - intOf (tm 5)).toNat) ⟨(by first | rfl | (simp only [wk, wt, wl, ↓reduceIte, Nat.reduceEqDiff, Nat.reduceAdd, wz]; done) | (simp only [wk, wt, wl, ↓reduceIte, Nat.reduceEqDiff, Nat.reduceAdd, wz]; rfl)), N1, 0, [], 0, .slice (some ⟨h.size, 0, none⟩) 1 2, (by first | rfl | (simp only [wk, wt, wl, ↓reduceIte, Nat.reduceEqDiff, Nat.reduceAdd, wz]; done) | (simp only [wk, wt, wl, ↓reduceIte, Nat.reduceEqDiff, Nat.reduceAdd, wz]; rfl)), (by first | rfl | (simp only [wk, wt, wl, ↓reduceIte, Nat.reduceEqDiff, Nat.reduceAdd, wz]; done) | (simp only [wk, wt, wl, ↓reduceIte, Nat.reduceEqDiff, Nat.reduceAdd, wz]; rfl)), by omega, by simp, by omega, by omega, O1, (Fam.freshK N1 blk_new).mono fun n hn => hn.1, rfl⟩ ?_
  rintro tm hh ⟨t0, K, i, l, n, v, t5, t4, hi, hli, hn0, hn9, O, hv, hg⟩
  have R1 := R.keeps K
  have LB := R1.len underlying30
  simp only [wk, wt, wl, ↓reduceIte, Nat.reduceEqDiff, Nat.reduceAdd, wz, t0, t5, t4, LB]
  refine condK_dec (fun hd => ?_) (fun hd => ?_)
  · have hi1 : i < b.length := by omega
    have IX := R1.index underlying30 asz5 (q := .i64) (i := (i : Int)) (by omega) (by omega)
    have LX := R1.at (i := i) (t := 5) underlying5 rfl hi1
    simp only [Int.toNat_natCast] at IX
    obtain ⟨x, hx⟩ : ∃ x, b[i]? = some x := ⟨b[i], List.getElem?_eq_getElem hi1⟩
    have hgd : b.getD i 0 = x := by simp [List.getD, hx]
    rw [hgd] at LX
    have hxb := hb x (List.mem_of_getElem? hx)
    have hdr : b.drop i = x :: b.drop (i + 1) := by rw [List.drop_eq_getElem_cons hi1]; congr 1; exact (List.getElem?_eq_some_iff.1 hx).2
    rw [hdr] at hg
    have LV := O.1.len underlying86
    have IV := Rd.index O.1 underlying86 asz3 (q := .i64) (i := (l.length : Int)) (by omega) (by omega)
    simp only [Int.toNat_natCast] at IV
    have wl1 : IntKind.i64.wrap (((l.length + 1 : Nat) : Int) - 1) = (l.length : Int) := by rw [IntWalk.i64_in _ (by omega)]; omega
    have wi : IntKind.i64.wrap ((i : Int) + 1) = ((i + 1 : Nat) : Int) := by rw [IntWalk.i64_in _ (by omega)]; omega
    have dirt : ∀ y, FamV hh v y → h.size ≤ y := fun y d => by
      obtain ⟨k, g, f⟩ := FamV.rg hv d
      have := (Ch.wf K).2 y k g
      omega
    have hvl : ∀ z, blkOf v = some z → z < hh.size := fun z hz => (O.1.blk_lt hz).1
    by_cases c1 : x = 59
    · have d1 : decide (x = 59) = true := decide_eq_true c1
      have hg1 : numsGo l n (x :: b.drop (i + 1)) = numsGo (l ++ [n]) 0 (b.drop (i + 1)) := by simp only [numsGo]; rw [if_pos c1]
      rw [hg1] at hg
      obtain ⟨h2, e2, O2, z2, C2, ⟨k2, q1, q2, q3⟩, _⟩ := O.append1 (P := prog) (Ch.wf K) underlying86 elem3 fits3 (by decide) (xs := [.int .i64 0]) rfl (by omega)
      have K2 := K.step C2 dirt
      have hle := Ch.le K
      simp only [wk, wt, wl, ↓reduceIte, Nat.reduceEqDiff, Nat.reduceAdd, wz, t0, t5, t4, IX, LX, LV, wl1, IV, d1, bsI, e2, wi, intOf_int]
      refine ⟨⟨K2, i + 1, l ++ [n], 0, _, rfl, rfl, by omega, by simp; omega, by omega, by omega, ?_, fun z k hz g => ?_, hg⟩, by omega⟩
      · have := O2
        rw [List.length_append, List.length_singleton, vL_app]; exact this
      · cases hz
        rw [q1] at g; cases g
        rcases q3 with e | ⟨w, kw, hw, gw, e⟩
        · rw [e]; show h.size ≤ _; omega
        · rw [e]; exact hv w kw hw gw
    · have d1 : decide (x = 59) = false := decide_eq_false c1
      by_cases c2 : 48 ≤ x ∧ x ≤ 57
      · have d2 : decide (48 ≤ x) = true := decide_eq_true c2.1
        have d3 : decide (x ≤ 57) = true := decide_eq_true c2.2
        have hg1 : numsGo l n (x :: b.drop (i + 1)) = numsGo l (imin (n * 10 + (x - 48)) 9999) (b.drop (i + 1)) := by simp only [numsGo]; rw [if_neg c1, if_pos c2]
        rw [hg1] at hg
        have M1 := imin_spec (n * 10 + (x - 48)) 9999
        have LN := O.1.at0 (t := 3) underlying3 rfl (i := l.length) (by omega) (by omega)
        have hat : (vL (l ++ [n]))[l.length * 1]? = some (.int .i64 n) := by simp [vL]
        rw [hat] at LN
        have w1 : IntKind.i64.wrap (n * 10) = n * 10 := IntWalk.i64_in _ (by omega)
        have w2 : IntKind.u8.wrap (x - 48) = x - 48 := IntWalk.u8_in _ (by omega)
        have w3 : IntKind.i64.wrap (x - 48) = x - 48 := IntWalk.i64_in _ (by omega)
        have w4 : IntKind.i64.wrap (n * 10 + (x - 48)) = n * 10 + (x - 48) := IntWalk.i64_in _ (by omega)
        obtain ⟨h2, e2, O2, C2, z2, f2, _⟩ := O.storeA (P := prog) (Ch.wf K) (t := 3) (w := .int .i64 (imin (n * 10 + (x - 48)) 9999)) (i := l.length) asz3 (by simp [Value.cells]) (by simp [Value.cells, one]) (by omega)
        have K2 := K.step C2 dirt
        have hov : over (vL (l ++ [n])) (l.length * 1) (Value.int .i64 (imin (n * 10 + (x - 48)) 9999)).cells.toList = vL (l ++ [imin (n * 10 + (x - 48)) 9999]) := by
          simp [Value.cells, over, vL]
        rw [hov] at O2
        have cv : ∀ h, aconv prog h 5 3 (.int .u8 (x - 48)) = some (.int .i64 (x - 48)) := fun h => by simp [aconv, underlying5, underlying3, w3]
        simp only [wk, wt, wl, ↓reduceIte, Nat.reduceEqDiff, Nat.reduceAdd, wz, t0, t5, t4, IX, LX, LV, wl1, d1, d2, d3]
        refine adraw_order [(0, false), (1, false), (2, false), (3, false), (4, false), (5, false), (6, false), (7, false), (8, false), (9, false), (10, false), (11, false), (12, false), (13, false), (14, false), (15, false), (16, false)] mixed (by kernel_rfl) (by kernel_rfl) (by kernel_rfl) (by with_reducible repeat (first | exact PF_retK | refine PF_thenK ?_ | refine PF_blockK ?_)) ?_
        simp only [wk, wt, wl, ↓reduceIte, Nat.reduceEqDiff, Nat.reduceAdd, wz, dK_t, t0, t5, t4, IX, LX, IV, LN, w1, w2, cv, w4, mnV, e2, wi, intOf_int]
        exact ⟨⟨K2, i + 1, l, _, v, rfl, rfl, by omega, by omega, by omega, by omega, O2, hv.ch C2 hvl, hg⟩, by omega⟩
      · have hg1 : numsGo l n (x :: b.drop (i + 1)) = none := by simp only [numsGo]; rw [if_neg c1, if_neg c2]
        rw [hg1] at hg
        rw [hg]
        by_cases c3 : 48 ≤ x
        · have d2 : decide (48 ≤ x) = true := decide_eq_true c3
          have d3 : decide (x ≤ 57) = false := decide_eq_false fun e => c2 ⟨c3, e⟩
          simp only [wk, wt, wl, ↓reduceIte, Nat.reduceEqDiff, Nat.reduceAdd, wz, t0, t5, t4, IX, LX, LV, wl1, IV, d1, d2, d3]
          exact ⟨rfl, K⟩
        · have d2 : decide (48 ≤ x) = false := decide_eq_false c3
          simp only [wk, wt, wl, ↓reduceIte, Nat.reduceEqDiff, Nat.reduceAdd, wz, t0, t5, t4, IX, LX, LV, wl1, IV, d1, d2]
          exact ⟨rfl, K⟩
  · obtain rfl : i = b.length := by omega
    rw [List.drop_length] at hg
    simp only [wk, wt, wl, ↓reduceIte, Nat.reduceEqDiff, Nat.reduceAdd, wz, t4]
    rw [hg]
    exact ⟨⟨v, rfl, by have := O.1; simpa [RdI, vL] using this, fun z hz => by
      obtain ⟨k, g, _⟩ := O.2 z hz
      have h1 := hv z k hz g
      have h2 := (Ch.wf K).2 z k g
      omega⟩, K⟩
theorem refErase_ok {h : Heap} {Fs : Nat → Prop} {x : Nat} {X : TX} {q : Int} {F T : Nat} (P : DY h Fs x X) (I : Inv X) (hT : T ≤ X.cells.length) :
    ACalls prog 67 #[pt x, .int .i64 q, .int .i64 F, .int .i64 T] h (fun y h' => y = .tuple #[] ∧ DY h' Fs x (eraseX X q F T) ∧ Ch (Rg Fs h) h h') := by
  refine acalls_of_W' func67 rfl (by kernel_rfl) (by kernel_rfl) (by simp [ntmps67]) ?_
  intro H
  obtain ⟨A, hA, hAl, hlen, _⟩ := I.rowA
  have hcol := I.col
  obtain ⟨c, hc⟩ : ∃ c : Nat, X.col = (c : Int) := ⟨X.col.toNat, by omega⟩
  have hat : X.row * X.cols + X.col = ((A + c : Nat) : Int) := by rw [hA]; omega
  have w1 : IntKind.i64.wrap (((A + c : Nat) : Int) + 1) = ((A + c + 1 : Nat) : Int) := by rw [IntWalk.i64_in _ (by omega)]; omega
  have e0 : (X.row * X.cols + X.col).toNat = A + c := by rw [hA]; omega
  have e1 : (X.row * X.cols + X.col + 1).toNat = A + c + 1 := by rw [hA]; omega
  by_cases c0 : q = 0
  · have d0 := decide_eq_true c0
    have hX : eraseX X q F T = { X with cells := wipeL X.cells (A + c) T } := by simp only [eraseX]; rw [if_pos c0, e0, Int.toNat_natCast]
    rw [hX]
    simp only [wk, wt, wl, ↓reduceIte, Nat.reduceEqDiff, Nat.reduceAdd, wz, pt, d0]
    refine (refAt_ok P I).use_pure ?_
    rw [hat]
    simp only [wk, wt, wl, ↓reduceIte, Nat.reduceEqDiff, Nat.reduceAdd, wz]
    refine (refWipeI_ok P I hT).use ?_
    rintro _ h1 ⟨rfl, P1, C1⟩
    simp only [wk, wt, wl, ↓reduceIte, Nat.reduceEqDiff, Nat.reduceAdd, wz]
    exact ⟨P1, C1⟩
  · have d0 := decide_eq_false c0
    by_cases c1 : q = 1
    · have d1 := decide_eq_true c1
      have hX : eraseX X q F T = { X with cells := wipeL X.cells F (A + c + 1) } := by simp only [eraseX]; rw [if_neg c0, if_pos c1, e1, Int.toNat_natCast]
      rw [hX]
      simp only [wk, wt, wl, ↓reduceIte, Nat.reduceEqDiff, Nat.reduceAdd, wz, pt, d0, d1]
      refine (refAt_ok P I).use_pure ?_
      rw [hat]
      simp only [wk, wt, wl, ↓reduceIte, Nat.reduceEqDiff, Nat.reduceAdd, wz, w1]
      refine (refWipeI_ok P I (by omega)).use ?_
      rintro _ h1 ⟨rfl, P1, C1⟩
      simp only [wk, wt, wl, ↓reduceIte, Nat.reduceEqDiff, Nat.reduceAdd, wz]
      exact ⟨P1, C1⟩
    · have d1 := decide_eq_false c1
      by_cases c2 : q = 2
      · have d2 := decide_eq_true c2
        have hX : eraseX X q F T = { X with cells := wipeL X.cells F T } := by simp only [eraseX]; rw [if_neg c0, if_neg c1, if_pos c2, Int.toNat_natCast, Int.toNat_natCast]
        rw [hX]
        simp only [wk, wt, wl, ↓reduceIte, Nat.reduceEqDiff, Nat.reduceAdd, wz, pt, d0, d1, d2]
        refine (refWipeI_ok P I hT).use ?_
        rintro _ h1 ⟨rfl, P1, C1⟩
        simp only [wk, wt, wl, ↓reduceIte, Nat.reduceEqDiff, Nat.reduceAdd, wz]
        exact ⟨P1, C1⟩
      · have d2 := decide_eq_false c2
        have hX : eraseX X q F T = X := by simp only [eraseX]; rw [if_neg c0, if_neg c1, if_neg c2]
        rw [hX]
        simp only [wk, wt, wl, ↓reduceIte, Nat.reduceEqDiff, Nat.reduceAdd, wz, d0, d1, d2]
        exact ⟨P, (Keeps.refl H).rg⟩
end Go.Proofs.YthmpaddhmgnkbaaDoor.Am
end
section
/- The document's terminal: the contract of sequence, by a walk. -/
set_option linter.unusedSimpArgs false
set_option linter.unusedVariables false
set_option maxHeartbeats 4000000
set_option maxRecDepth 20000
namespace Go.Proofs.YthmpaddhmgnkbaaDoor.Am
open Go Go.RowKit Go.Proofs.Tryd
theorem imax_comm (a b : Int) : imax a b = imax b a := by unfold imax; (repeat' split) <;> omega
theorem numsGo_ask {s : List Int} (h : asksB s = true) : numsGo [] 0 s = none := by
  cases s with
  | nil => simp [asksB] at h
  | cons y s =>
    have e : y = 63 := by simpa [asksB] using h
    subst e
    simp [numsGo]
theorem seqX_other {X : TX} {s : List Int} {b : Int} (hb : ¬ (b = 104 ∨ b = 108)) : seqX X s b = match numsGo [] 0 s with | none => X | some l => doX X l b := by
  unfold seqX
  by_cases ha : asksB s = true
  · rw [numsGo_ask ha, if_pos ha, ha, decide_eq_false hb]
    cases numsGo [] 0 s.tail <;> rfl
  · have ha' : asksB s = false := by simpa using ha
    rw [if_neg ha, ha', decide_eq_false hb]
    cases numsGo [] 0 s <;> rfl
section
variable {h : Heap} {Fs : Nat → Prop} {x : Nat} {X : TX} {bv : Value} {s : List Int} {b : Int}
theorem seq_hide (P : DY h Fs x X) (RB : RdI prog h .u8 bv s) (hs : ∀ y, y ∈ s → isB y) (hl : s.length ≤ 32) (hb0 : b = 104 ∨ b = 108) :
    ACalls prog 44 #[pt x, bv, .int .u8 b] h (fun y h' => y = .tuple #[] ∧ DY h' Fs x (seqX X s b) ∧ Ch (Rg Fs h) h h') := by
  refine acalls_of_W' func44 rfl (by kernel_rfl) (by kernel_rfl) (by simp [ntmps44]) ?_
  intro H
  obtain ⟨cv, sv, rv, ps, C, S, R, Q⟩ := P
  have LB := RB.len underlying30
  have E : (decide (b = 104) = true) ∨ (decide (b = 104) = false ∧ decide (b = 108) = true) := by
    by_cases e : b = 104
    · exact .inl (decide_eq_true e)
    · exact .inr ⟨decide_eq_false e, decide_eq_true (hb0.resolve_left e)⟩
  cases s with
  | nil =>
    have d0 : decide ((0 : Int) < (([] : List Int).length : Int)) = false := by decide
    have hask : asksB [] = false := rfl
    generalize hss : ([] : List Int) = s at *
    rcases E with e | ⟨e, e'⟩
    · simp only [wk, wt, wl, ↓reduceIte, Nat.reduceEqDiff, Nat.reduceAdd, wz, e, LB, d0]
      have hX : seqX X s b = X := by
        unfold seqX
        rw [hask, decide_eq_true hb0]
        cases numsGo [] 0 (if false = true then s.tail else s) <;> rfl
      rw [hX]
      exact ⟨⟨_, _, _, _, _, _, _, Q⟩, (Keeps.refl H).rg⟩
    · simp only [wk, wt, wl, ↓reduceIte, Nat.reduceEqDiff, Nat.reduceAdd, wz, e, e', LB, d0]
      have hX : seqX X s b = X := by
        unfold seqX
        rw [hask, decide_eq_true hb0]
        cases numsGo [] 0 (if false = true then s.tail else s) <;> rfl
      rw [hX]
      exact ⟨⟨_, _, _, _, _, _, _, Q⟩, (Keeps.refl H).rg⟩
  | cons y s' =>
    have d0 : decide ((0 : Int) < ((y :: s').length : Int)) = true := decide_eq_true (by simp only [List.length_cons]; omega)
    have I0 := RB.index underlying30 asz5 (q := .i64) (i := (0 : Int)) (by omega) (by simp only [List.length_cons]; omega)
    have L0 := RB.at (i := 0) (t := 5) underlying5 rfl (by simp only [List.length_cons]; omega)
    have hy0 : (y :: s').getD 0 0 = y := rfl
    rw [hy0] at L0
    simp only [show (0 : Int).toNat = 0 from rfl] at I0
    by_cases h63 : y = 63
    · have d1 : decide (y = 63) = true := decide_eq_true h63
      have hask : asksB (y :: s') = true := by simp [asksB, h63]
      have SL := RB.sliceLo underlying30 asz5 (q := .i64) (i := 1) (by omega) (by simp only [List.length_cons]; omega)
      have RD := RB.partLo (L := 1) (by simp only [List.length_cons]; omega)
      simp only [show (1 : Int).toNat = 1 from rfl] at SL
      generalize hss : y :: s' = s at *
      rcases E with e | ⟨e, e'⟩
      · simp only [wk, wt, wl, ↓reduceIte, Nat.reduceEqDiff, Nat.reduceAdd, wz, e, LB, d0, I0, L0, d1, SL]
        have hX : seqX X s b = match numsGo [] 0 (s.drop 1) with | none => X | some l => if 25 ∈ l then { X with hid := decide (b = 108) } else X := by
          unfold seqX
          rw [hask, if_pos rfl, decide_eq_true hb0, List.drop_one]
          cases hn : numsGo [] 0 s.tail with
          | none => rfl
          | some l => simp only [doX, if_true]; rw [if_pos hb0]
        rw [hX]
        refine (refNumbers_ok RD (fun y hy => hs y (List.mem_of_mem_drop hy)) (by rw [List.length_drop]; omega)).use ?_
        rintro y h1 ⟨hy, K1⟩
        have Q1 := Q.keeps H K1
        cases hN : numsGo [] 0 (s.drop 1) with
        | none =>
          rw [hN] at hy
          obtain rfl : y = .tuple #[.slice none 0 0, .bool false] := hy
          have LN : abuiltin prog .len #[86] #[.slice none 0 0] = some (.int .i64 0) := by simp [abuiltin, underlying86]
          simp only [wk, wt, wl, ↓reduceIte, Nat.reduceEqDiff, Nat.reduceAdd, wz]
          refine W_loop (fun tm hh => hh = h1 ∧ tm 6 = .slice none 0 0 ∧ tm 8 = .int .i64 0) (fun _ _ => 0) ⟨rfl, (by first | rfl | (simp only [wk, wt, wl, ↓reduceIte, Nat.reduceEqDiff, Nat.reduceAdd, wz]; done) | (simp only [wk, wt, wl, ↓reduceIte, Nat.reduceEqDiff, Nat.reduceAdd, wz]; rfl)), (by first | rfl | (simp only [wk, wt, wl, ↓reduceIte, Nat.reduceEqDiff, Nat.reduceAdd, wz]; done) | (simp only [wk, wt, wl, ↓reduceIte, Nat.reduceEqDiff, Nat.reduceAdd, wz]; rfl))⟩ ?_
          rintro tm hh ⟨rfl, t6, t8⟩
          have d0 : decide ((0 : Int) < 0) = false := by decide
          simp only [wk, wt, wl, ↓reduceIte, Nat.reduceEqDiff, Nat.reduceAdd, wz, t6, t8, LN, d0]
          exact ⟨⟨_, _, _, _, _, _, _, Q1⟩, K1.rg⟩
        | some l =>
          rw [hN] at hy
          obtain ⟨v, rfl, RL, hvz⟩ := hy
          have hlen := numsGo_len hN
          simp only [List.length_nil, Nat.zero_add] at hlen
          have hdl : (s.drop 1).length ≤ 32 := by rw [List.length_drop]; omega
          have hvx : blkOf v ≠ some x := fun e => by have := hvz x e; have := Q.xl; omega
          simp only [wk, wt, wl, ↓reduceIte, Nat.reduceEqDiff, Nat.reduceAdd, wz]
          refine W_loop (fun tm hh => tm 0 = pt x ∧ tm 2 = .int .u8 b ∧ tm 6 = v ∧ tm 7 = .bool true ∧ Ch (Rg Fs h) h hh ∧ RdI prog hh .i64 v l ∧ ∃ i : Nat, tm 8 = .int .i64 (i : Int) ∧ i ≤ l.length ∧ DX hh Fs x { X with hid := if 25 ∈ l.take i then decide (b = 108) else X.hid } cv sv rv ps C S R)
            (fun tm _ => (l.length - intOf (tm 8)).toNat) ⟨(by first | rfl | (simp only [wk, wt, wl, ↓reduceIte, Nat.reduceEqDiff, Nat.reduceAdd, wz]; done) | (simp only [wk, wt, wl, ↓reduceIte, Nat.reduceEqDiff, Nat.reduceAdd, wz]; rfl)), (by first | rfl | (simp only [wk, wt, wl, ↓reduceIte, Nat.reduceEqDiff, Nat.reduceAdd, wz]; done) | (simp only [wk, wt, wl, ↓reduceIte, Nat.reduceEqDiff, Nat.reduceAdd, wz]; rfl)), (by first | rfl | (simp only [wk, wt, wl, ↓reduceIte, Nat.reduceEqDiff, Nat.reduceAdd, wz]; done) | (simp only [wk, wt, wl, ↓reduceIte, Nat.reduceEqDiff, Nat.reduceAdd, wz]; rfl)), (by first | rfl | (simp only [wk, wt, wl, ↓reduceIte, Nat.reduceEqDiff, Nat.reduceAdd, wz]; done) | (simp only [wk, wt, wl, ↓reduceIte, Nat.reduceEqDiff, Nat.reduceAdd, wz]; rfl)), K1.rg, RL, 0, (by first | rfl | (simp only [wk, wt, wl, ↓reduceIte, Nat.reduceEqDiff, Nat.reduceAdd, wz]; done) | (simp only [wk, wt, wl, ↓reduceIte, Nat.reduceEqDiff, Nat.reduceAdd, wz]; rfl)), by omega, by simpa using Q1⟩ ?_
          rintro tm hh ⟨t0, t2, t6, t7, D, RV, i, t8, hi, Q2⟩
          simp only [wk, wt, wl, ↓reduceIte, Nat.reduceEqDiff, Nat.reduceAdd, wz, t6, t7, t8, RV.len underlying86]
          by_cases hi1 : i < l.length
          · have di : decide ((i : Int) < (l.length : Int)) = true := decide_eq_true (by omega)
            have IX := RV.index underlying86 asz3 (q := .i64) (i := (i : Int)) (by omega) (by omega)
            have LX := RV.at (i := i) (t := 3) underlying3 rfl hi1
            simp only [Int.toNat_natCast] at IX
            have wi : IntKind.i64.wrap ((i : Int) + 1) = ((i + 1 : Nat) : Int) := by rw [IntWalk.i64_in _ (by omega)]; omega
            have htk : l.take (i + 1) = l.take i ++ [l.getD i 0] := by rw [List.take_add_one, List.getD, List.getElem?_eq_getElem hi1]; rfl
            by_cases h25 : l.getD i 0 = 25
            · have d25 := decide_eq_true h25
              obtain ⟨h3, e3, V3, C3, z3⟩ := Q2.var.store1 (P := prog) (t := 4) (v := .bool (decide (b = 108))) (i := 6) (Ch.wf D) asz4 (by simp [dF]) rfl
              obtain ⟨Q3, D3⟩ := Q2.own (X' := { X with hid := if 25 ∈ l.take (i + 1) then decide (b = 108) else X.hid }) (Ch.wf D) C3 (by
                have hm : (25 : Int) ∈ l.take (i + 1) := by rw [htk, h25]; simp
                rw [if_pos hm]
                exact V3) rfl rfl rfl
              simp only [wk, wt, wl, ↓reduceIte, Nat.reduceEqDiff, Nat.reduceAdd, wz, di, t0, t2, t6, t7, t8, pt, IX, LX, d25, e3, wi, intOf_int]
              exact ⟨⟨D.thenR D3, Ch.rd C3 RV (fun y hy e => hvx (by rw [hy, e])), i + 1, rfl, by omega, Q3⟩, by omega⟩
            · have d25 := decide_eq_false h25
              have hsame : (25 ∈ l.take (i + 1)) = (25 ∈ l.take i) := propext (by
                rw [htk, List.mem_append, List.mem_singleton]
                exact ⟨fun q => q.resolve_right fun e => h25 e.symm, .inl⟩)
              simp only [wk, wt, wl, ↓reduceIte, Nat.reduceEqDiff, Nat.reduceAdd, wz, di, t0, t2, t6, t7, t8, pt, IX, LX, d25, wi, intOf_int]
              refine ⟨⟨D, RV, i + 1, rfl, by omega, ?_⟩, by omega⟩
              simp only [hsame]
              exact Q2
          · have di : decide ((i : Int) < (l.length : Int)) = false := decide_eq_false (by omega)
            obtain rfl : i = l.length := by omega
            simp only [wk, wt, wl, ↓reduceIte, Nat.reduceEqDiff, Nat.reduceAdd, wz, di]
            rw [List.take_length] at Q2
            refine ⟨?_, D⟩
            by_cases h25 : (25 : Int) ∈ l
            · simp only [if_pos h25] at Q2 ⊢
              exact ⟨_, _, _, _, _, _, _, Q2⟩
            · simp only [if_neg h25] at Q2 ⊢
              exact ⟨_, _, _, _, _, _, _, Q2⟩
      · simp only [wk, wt, wl, ↓reduceIte, Nat.reduceEqDiff, Nat.reduceAdd, wz, e, e', LB, d0, I0, L0, d1, SL]
        have hX : seqX X s b = match numsGo [] 0 (s.drop 1) with | none => X | some l => if 25 ∈ l then { X with hid := decide (b = 108) } else X := by
          unfold seqX
          rw [hask, if_pos rfl, decide_eq_true hb0, List.drop_one]
          cases hn : numsGo [] 0 s.tail with
          | none => rfl
          | some l => simp only [doX, if_true]; rw [if_pos hb0]
        rw [hX]
        refine (refNumbers_ok RD (fun y hy => hs y (List.mem_of_mem_drop hy)) (by rw [List.length_drop]; omega)).use ?_
        rintro y h1 ⟨hy, K1⟩
        have Q1 := Q.keeps H K1
        cases hN : numsGo [] 0 (s.drop 1) with
        | none =>
          rw [hN] at hy
          obtain rfl : y = .tuple #[.slice none 0 0, .bool false] := hy
          have LN : abuiltin prog .len #[86] #[.slice none 0 0] = some (.int .i64 0) := by simp [abuiltin, underlying86]
          simp only [wk, wt, wl, ↓reduceIte, Nat.reduceEqDiff, Nat.reduceAdd, wz]
          refine W_loop (fun tm hh => hh = h1 ∧ tm 6 = .slice none 0 0 ∧ tm 8 = .int .i64 0) (fun _ _ => 0) ⟨rfl, (by first | rfl | (simp only [wk, wt, wl, ↓reduceIte, Nat.reduceEqDiff, Nat.reduceAdd, wz]; done) | (simp only [wk, wt, wl, ↓reduceIte, Nat.reduceEqDiff, Nat.reduceAdd, wz]; rfl)), (by first | rfl | (simp only [wk, wt, wl, ↓reduceIte, Nat.reduceEqDiff, Nat.reduceAdd, wz]; done) | (simp only [wk, wt, wl, ↓reduceIte, Nat.reduceEqDiff, Nat.reduceAdd, wz]; rfl))⟩ ?_
          rintro tm hh ⟨rfl, t6, t8⟩
          have d0 : decide ((0 : Int) < 0) = false := by decide
          simp only [wk, wt, wl, ↓reduceIte, Nat.reduceEqDiff, Nat.reduceAdd, wz, t6, t8, LN, d0]
          exact ⟨⟨_, _, _, _, _, _, _, Q1⟩, K1.rg⟩
        | some l =>
          rw [hN] at hy
          obtain ⟨v, rfl, RL, hvz⟩ := hy
          have hlen := numsGo_len hN
          simp only [List.length_nil, Nat.zero_add] at hlen
          have hdl : (s.drop 1).length ≤ 32 := by rw [List.length_drop]; omega
          have hvx : blkOf v ≠ some x := fun e => by have := hvz x e; have := Q.xl; omega
          simp only [wk, wt, wl, ↓reduceIte, Nat.reduceEqDiff, Nat.reduceAdd, wz]
          refine W_loop (fun tm hh => tm 0 = pt x ∧ tm 2 = .int .u8 b ∧ tm 6 = v ∧ tm 7 = .bool true ∧ Ch (Rg Fs h) h hh ∧ RdI prog hh .i64 v l ∧ ∃ i : Nat, tm 8 = .int .i64 (i : Int) ∧ i ≤ l.length ∧ DX hh Fs x { X with hid := if 25 ∈ l.take i then decide (b = 108) else X.hid } cv sv rv ps C S R)
            (fun tm _ => (l.length - intOf (tm 8)).toNat) ⟨(by first | rfl | (simp only [wk, wt, wl, ↓reduceIte, Nat.reduceEqDiff, Nat.reduceAdd, wz]; done) | (simp only [wk, wt, wl, ↓reduceIte, Nat.reduceEqDiff, Nat.reduceAdd, wz]; rfl)), (by first | rfl | (simp only [wk, wt, wl, ↓reduceIte, Nat.reduceEqDiff, Nat.reduceAdd, wz]; done) | (simp only [wk, wt, wl, ↓reduceIte, Nat.reduceEqDiff, Nat.reduceAdd, wz]; rfl)), (by first | rfl | (simp only [wk, wt, wl, ↓reduceIte, Nat.reduceEqDiff, Nat.reduceAdd, wz]; done) | (simp only [wk, wt, wl, ↓reduceIte, Nat.reduceEqDiff, Nat.reduceAdd, wz]; rfl)), (by first | rfl | (simp only [wk, wt, wl, ↓reduceIte, Nat.reduceEqDiff, Nat.reduceAdd, wz]; done) | (simp only [wk, wt, wl, ↓reduceIte, Nat.reduceEqDiff, Nat.reduceAdd, wz]; rfl)), K1.rg, RL, 0, (by first | rfl | (simp only [wk, wt, wl, ↓reduceIte, Nat.reduceEqDiff, Nat.reduceAdd, wz]; done) | (simp only [wk, wt, wl, ↓reduceIte, Nat.reduceEqDiff, Nat.reduceAdd, wz]; rfl)), by omega, by simpa using Q1⟩ ?_
          rintro tm hh ⟨t0, t2, t6, t7, D, RV, i, t8, hi, Q2⟩
          simp only [wk, wt, wl, ↓reduceIte, Nat.reduceEqDiff, Nat.reduceAdd, wz, t6, t7, t8, RV.len underlying86]
          by_cases hi1 : i < l.length
          · have di : decide ((i : Int) < (l.length : Int)) = true := decide_eq_true (by omega)
            have IX := RV.index underlying86 asz3 (q := .i64) (i := (i : Int)) (by omega) (by omega)
            have LX := RV.at (i := i) (t := 3) underlying3 rfl hi1
            simp only [Int.toNat_natCast] at IX
            have wi : IntKind.i64.wrap ((i : Int) + 1) = ((i + 1 : Nat) : Int) := by rw [IntWalk.i64_in _ (by omega)]; omega
            have htk : l.take (i + 1) = l.take i ++ [l.getD i 0] := by rw [List.take_add_one, List.getD, List.getElem?_eq_getElem hi1]; rfl
            by_cases h25 : l.getD i 0 = 25
            · have d25 := decide_eq_true h25
              obtain ⟨h3, e3, V3, C3, z3⟩ := Q2.var.store1 (P := prog) (t := 4) (v := .bool (decide (b = 108))) (i := 6) (Ch.wf D) asz4 (by simp [dF]) rfl
              obtain ⟨Q3, D3⟩ := Q2.own (X' := { X with hid := if 25 ∈ l.take (i + 1) then decide (b = 108) else X.hid }) (Ch.wf D) C3 (by
                have hm : (25 : Int) ∈ l.take (i + 1) := by rw [htk, h25]; simp
                rw [if_pos hm]
                exact V3) rfl rfl rfl
              simp only [wk, wt, wl, ↓reduceIte, Nat.reduceEqDiff, Nat.reduceAdd, wz, di, t0, t2, t6, t7, t8, pt, IX, LX, d25, e3, wi, intOf_int]
              exact ⟨⟨D.thenR D3, Ch.rd C3 RV (fun y hy e => hvx (by rw [hy, e])), i + 1, rfl, by omega, Q3⟩, by omega⟩
            · have d25 := decide_eq_false h25
              have hsame : (25 ∈ l.take (i + 1)) = (25 ∈ l.take i) := propext (by
                rw [htk, List.mem_append, List.mem_singleton]
                exact ⟨fun q => q.resolve_right fun e => h25 e.symm, .inl⟩)
              simp only [wk, wt, wl, ↓reduceIte, Nat.reduceEqDiff, Nat.reduceAdd, wz, di, t0, t2, t6, t7, t8, pt, IX, LX, d25, wi, intOf_int]
              refine ⟨⟨D, RV, i + 1, rfl, by omega, ?_⟩, by omega⟩
              simp only [hsame]
              exact Q2
          · have di : decide ((i : Int) < (l.length : Int)) = false := decide_eq_false (by omega)
            obtain rfl : i = l.length := by omega
            simp only [wk, wt, wl, ↓reduceIte, Nat.reduceEqDiff, Nat.reduceAdd, wz, di]
            rw [List.take_length] at Q2
            refine ⟨?_, D⟩
            by_cases h25 : (25 : Int) ∈ l
            · simp only [if_pos h25] at Q2 ⊢
              exact ⟨_, _, _, _, _, _, _, Q2⟩
            · simp only [if_neg h25] at Q2 ⊢
              exact ⟨_, _, _, _, _, _, _, Q2⟩
    · have d1 : decide (y = 63) = false := decide_eq_false h63
      have hask : asksB (y :: s') = false := by simp [asksB, h63]
      generalize hss : y :: s' = s at *
      rcases E with e | ⟨e, e'⟩
      · simp only [wk, wt, wl, ↓reduceIte, Nat.reduceEqDiff, Nat.reduceAdd, wz, e, LB, d0, I0, L0, d1]
        have hX : seqX X s b = X := by
          unfold seqX
          rw [hask, decide_eq_true hb0]
          cases numsGo [] 0 (if false = true then s.tail else s) <;> rfl
        rw [hX]
        exact ⟨⟨_, _, _, _, _, _, _, Q⟩, (Keeps.refl H).rg⟩
      · simp only [wk, wt, wl, ↓reduceIte, Nat.reduceEqDiff, Nat.reduceAdd, wz, e, e', LB, d0, I0, L0, d1]
        have hX : seqX X s b = X := by
          unfold seqX
          rw [hask, decide_eq_true hb0]
          cases numsGo [] 0 (if false = true then s.tail else s) <;> rfl
        rw [hX]
        exact ⟨⟨_, _, _, _, _, _, _, Q⟩, (Keeps.refl H).rg⟩
end
end Go.Proofs.YthmpaddhmgnkbaaDoor.Am
end
section
/- The document's terminal: the contract of sequence at the other letters, by a walk. -/
set_option linter.unusedSimpArgs false
set_option linter.unusedVariables false
set_option maxHeartbeats 4000000
set_option maxRecDepth 20000
namespace Go.Proofs.YthmpaddhmgnkbaaDoor.Am
open Go Go.RowKit Go.Proofs.Tryd
section
variable {h : Heap} {Fs : Nat → Prop} {x : Nat} {X : TX} {bv : Value} {s : List Int} {b : Int}
theorem seq_do (P : DY h Fs x X) (I : Inv X) (RB : RdI prog h .u8 bv s) (hs : ∀ y, y ∈ s → isB y) (hl : s.length ≤ 32) (hb0 : ¬ (b = 104 ∨ b = 108)) :
    ACalls prog 44 #[pt x, bv, .int .u8 b] h (fun y h' => y = .tuple #[] ∧ DY h' Fs x (seqX X s b) ∧ Ch (Rg Fs h) h h') := by
  refine acalls_of_W' func44 rfl (by kernel_rfl) (by kernel_rfl) (by simp [ntmps44]) ?_
  intro H
  obtain ⟨cv, sv, rv, ps, C, S, R, Q⟩ := P
  have n1 : decide (b = 104) = false := decide_eq_false fun e => hb0 (.inl e)
  have n2 : decide (b = 108) = false := decide_eq_false fun e => hb0 (.inr e)
  rw [seqX_other hb0]
  simp only [wk, wt, wl, ↓reduceIte, Nat.reduceEqDiff, Nat.reduceAdd, wz, n1, n2]
  refine (refNumbers_ok RB hs (by omega)).use ?_
  rintro y h1 ⟨hy, K1⟩
  have Q1 := Q.keeps H K1
  have P1 : DY h1 Fs x X := ⟨_, _, _, _, _, _, _, Q1⟩
  cases hN : numsGo [] 0 s with
  | none =>
    rw [hN] at hy
    obtain rfl : y = .tuple #[.slice none 0 0, .bool false] := hy
    simp only [wk, wt, wl, ↓reduceIte, Nat.reduceEqDiff, Nat.reduceAdd, wz, Bool.not_false]
    exact ⟨P1, K1.rg⟩
  | some l =>
    rw [hN] at hy
    obtain ⟨v, rfl, RL, hvz⟩ := hy
    have hlen := numsGo_len hN
    simp only [List.length_nil, Nat.zero_add] at hlen
    obtain ⟨l0, l1, l2, l3, l4, l5, l6, l7, l8, l9, l10⟩ := Q1.load
    have hl0 : 0 < l.length := by omega
    have IL0 := RL.index underlying86 asz3 (q := .i64) (i := (0 : Int)) (by omega) (by omega)
    have LL0 := RL.at (i := 0) (t := 3) underlying3 rfl hl0
    have LLn := RL.len underlying86
    have hbd := numsGo_bd hN (fun x hx => by cases hx) (by omega)
    have g0 := getD_bd hbd 0
    have g1 := getD_bd hbd 1
    have X0 := imax_spec (l.getD 0 0) 1
    have X1 := imax_spec (l.getD 1 0) 1
    simp only [show (0 : Int).toNat = 0 from rfl] at IL0
    obtain ⟨A, hA, hAl, hlenC, _⟩ := I.rowA
    have hc := I.c; have hcol := I.col; have hr := I.r; have hrow := I.row
    obtain ⟨cc, hcc2⟩ : ∃ c : Nat, X.cols = (c : Int) := ⟨X.cols.toNat, by omega⟩
    have wr : IntKind.i64.wrap (X.row + 1) = X.row + 1 := IntWalk.i64_in _ (by omega)
    have hA2 : (X.row + 1) * X.cols = ((A + cc : Nat) : Int) := by rw [Int.add_mul, Int.one_mul, hA]; omega
    have w1 : IntKind.i64.wrap (X.row * X.cols) = (A : Int) := by rw [hA]; exact IntWalk.i64_in _ (by omega)
    have w2 : IntKind.i64.wrap ((X.row + 1) * X.cols) = ((A + cc : Nat) : Int) := by rw [hA2]; exact IntWalk.i64_in _ (by omega)
    have nz : imax 1 (l.getD 0 0) = imax (l.getD 0 0) 1 := imax_comm _ _
    have nz1 : imax 1 (l.getD 1 0) = imax (l.getD 1 0) 1 := imax_comm _ _
    obtain ⟨N, hNN⟩ : ∃ N, imax (l.getD 0 0) 1 = N := ⟨_, rfl⟩
    rw [hNN] at nz X0
    simp only [wk, wt, wl, ↓reduceIte, Nat.reduceEqDiff, Nat.reduceAdd, wz, Bool.not_true, IL0, LL0, mxV, nz, pt]
    refine adraw_order [(0, false), (1, false), (2, false), (3, false), (4, false), (5, false), (6, false), (7, false), (8, false), (9, false), (10, false), (11, false)] mixed (by kernel_rfl) (by kernel_rfl) (by kernel_rfl) (by with_reducible repeat (first | exact PF_retK | refine PF_thenK ?_ | refine PF_blockK ?_)) ?_
    simp only [wk, wt, wl, ↓reduceIte, Nat.reduceEqDiff, Nat.reduceAdd, wz, dK_t, pt, l3, l4]
    refine adraw_order [(0, false), (1, false), (2, false), (3, false), (4, false), (5, false), (6, false), (7, false), (8, false), (9, false), (10, false), (11, false), (12, false), (13, false), (14, false), (15, false), (16, false)] mixed (by kernel_rfl) (by kernel_rfl) (by kernel_rfl) (by with_reducible repeat (first | exact PF_retK | refine PF_thenK ?_ | refine PF_blockK ?_)) ?_
    simp only [wk, wt, wl, ↓reduceIte, Nat.reduceEqDiff, Nat.reduceAdd, wz, dK_t, pt, l1, wr, w1, w2]
    by_cases b1 : b = 72
    · have d1 := decide_eq_true b1
      have hX : doX X l b = moveX X (N - 1) ((if 1 < l.length then imax (l.getD 1 0) 1 else 1) - 1) := by rw [b1, ← hNN]; simp [doX]
      simp only [hX]
      by_cases hl1 : 1 < l.length
      · have d8 : decide (1 < (l.length : Int)) = true := decide_eq_true (by omega)
        have IL1 := RL.index underlying86 asz3 (q := .i64) (i := (1 : Int)) (by omega) (by omega)
        have LL1 := RL.at (i := 1) (t := 3) underlying3 rfl hl1
        simp only [show (1 : Int).toNat = 1 from rfl] at IL1
        rw [if_pos hl1]
        simp (disch := omega) only [wk, wt, wl, ↓reduceIte, Nat.reduceEqDiff, Nat.reduceAdd, wz, d1, LLn, d8, IL1, LL1, mxV, nz1, IntWalk.i64_in]
        refine (refGoes_ok P1 I.r I.c).use ?_
        rintro _ h2 ⟨rfl, P2, C2⟩
        simp only [wk, wt, wl, ↓reduceIte, Nat.reduceEqDiff, Nat.reduceAdd, wz]
        exact ⟨P2, K1.rg.thenR C2⟩
      · have d8 : decide (1 < (l.length : Int)) = false := decide_eq_false (by omega)
        rw [if_neg hl1]
        simp (disch := omega) only [wk, wt, wl, ↓reduceIte, Nat.reduceEqDiff, Nat.reduceAdd, wz, d1, LLn, d8, IntWalk.i64_in]
        refine (refGoes_ok P1 I.r I.c).use ?_
        rintro _ h2 ⟨rfl, P2, C2⟩
        simp only [wk, wt, wl, ↓reduceIte, Nat.reduceEqDiff, Nat.reduceAdd, wz]
        exact ⟨P2, K1.rg.thenR C2⟩
    · have d1 := decide_eq_false b1
      by_cases b2 : b = 65
      · have d2 := decide_eq_true b2
        have hX : doX X l b = moveX X (X.row - N) X.col := by rw [b2, ← hNN]; simp [doX]
        simp only [hX]
        simp (disch := omega) only [wk, wt, wl, ↓reduceIte, Nat.reduceEqDiff, Nat.reduceAdd, wz, d1, d2, IntWalk.i64_in]
        refine (refGoes_ok P1 I.r I.c).use ?_
        rintro _ h2 ⟨rfl, P2, C2⟩
        simp only [wk, wt, wl, ↓reduceIte, Nat.reduceEqDiff, Nat.reduceAdd, wz]
        exact ⟨P2, K1.rg.thenR C2⟩
      · have d2 := decide_eq_false b2
        by_cases b3 : b = 66
        · have d3 := decide_eq_true b3
          have hX : doX X l b = moveX X (X.row + N) X.col := by rw [b3, ← hNN]; simp [doX]
          simp only [hX]
          simp (disch := omega) only [wk, wt, wl, ↓reduceIte, Nat.reduceEqDiff, Nat.reduceAdd, wz, d1, d2, d3, IntWalk.i64_in]
          refine (refGoes_ok P1 I.r I.c).use ?_
          rintro _ h2 ⟨rfl, P2, C2⟩
          simp only [wk, wt, wl, ↓reduceIte, Nat.reduceEqDiff, Nat.reduceAdd, wz]
          exact ⟨P2, K1.rg.thenR C2⟩
        · have d3 := decide_eq_false b3
          by_cases b4 : b = 67
          · have d4 := decide_eq_true b4
            have hX : doX X l b = moveX X X.row (X.col + N) := by rw [b4, ← hNN]; simp [doX]
            simp only [hX]
            simp (disch := omega) only [wk, wt, wl, ↓reduceIte, Nat.reduceEqDiff, Nat.reduceAdd, wz, d1, d2, d3, d4, IntWalk.i64_in]
            refine (refGoes_ok P1 I.r I.c).use ?_
            rintro _ h2 ⟨rfl, P2, C2⟩
            simp only [wk, wt, wl, ↓reduceIte, Nat.reduceEqDiff, Nat.reduceAdd, wz]
            exact ⟨P2, K1.rg.thenR C2⟩
          · have d4 := decide_eq_false b4
            by_cases b5 : b = 68
            · have d5 := decide_eq_true b5
              have hX : doX X l b = moveX X X.row (X.col - N) := by rw [b5, ← hNN]; simp [doX]
              simp only [hX]
              simp (disch := omega) only [wk, wt, wl, ↓reduceIte, Nat.reduceEqDiff, Nat.reduceAdd, wz, d1, d2, d3, d4, d5, IntWalk.i64_in]
              refine (refGoes_ok P1 I.r I.c).use ?_
              rintro _ h2 ⟨rfl, P2, C2⟩
              simp only [wk, wt, wl, ↓reduceIte, Nat.reduceEqDiff, Nat.reduceAdd, wz]
              exact ⟨P2, K1.rg.thenR C2⟩
            · have d5 := decide_eq_false b5
              by_cases b6 : b = 71
              · have d6 := decide_eq_true b6
                have hX : doX X l b = moveX X X.row (N - 1) := by rw [b6, ← hNN]; simp [doX]
                simp only [hX]
                simp (disch := omega) only [wk, wt, wl, ↓reduceIte, Nat.reduceEqDiff, Nat.reduceAdd, wz, d1, d2, d3, d4, d5, d6, IntWalk.i64_in]
                refine (refGoes_ok P1 I.r I.c).use ?_
                rintro _ h2 ⟨rfl, P2, C2⟩
                simp only [wk, wt, wl, ↓reduceIte, Nat.reduceEqDiff, Nat.reduceAdd, wz]
                exact ⟨P2, K1.rg.thenR C2⟩
              · have d6 := decide_eq_false b6
                by_cases b7 : b = 74
                · have d7 := decide_eq_true b7
                  have hX : doX X l b = eraseX X (l.getD 0 0) 0 X.cells.length := by rw [b7]; simp [doX]
                  simp only [hX]
                  simp only [wk, wt, wl, ↓reduceIte, Nat.reduceEqDiff, Nat.reduceAdd, wz, d1, d2, d3, d4, d5, d6, d7, pt]
                  refine adraw_order [(0, false), (1, false), (2, false), (3, false), (4, false), (5, false), (6, false), (7, false)] mixed (by kernel_rfl) (by kernel_rfl) (by kernel_rfl) (by with_reducible repeat (first | exact PF_retK | refine PF_thenK ?_ | refine PF_blockK ?_)) ?_
                  simp only [wk, wt, wl, ↓reduceIte, Nat.reduceEqDiff, Nat.reduceAdd, wz, dK_t, pt, l2, Q1.gp.len, IL0, LL0]
                  refine (refErase_ok (q := l.getD 0 0) (F := 0) (T := X.cells.length) P1 I (Nat.le_refl _)).use ?_
                  rintro _ h2 ⟨rfl, P2, C2⟩
                  simp only [wk, wt, wl, ↓reduceIte, Nat.reduceEqDiff, Nat.reduceAdd, wz]
                  exact ⟨P2, K1.rg.thenR C2⟩
                · have d7 := decide_eq_false b7
                  by_cases b8 : b = 75
                  · have d8 := decide_eq_true b8
                    have hX : doX X l b = eraseX X (l.getD 0 0) (X.row * X.cols) ((X.row + 1) * X.cols) := by rw [b8]; simp [doX]
                    simp only [hX]
                    simp only [wk, wt, wl, ↓reduceIte, Nat.reduceEqDiff, Nat.reduceAdd, wz, d1, d2, d3, d4, d5, d6, d7, d8, IL0, LL0]
                    refine (refErase_ok (q := l.getD 0 0) (F := A) (T := A + cc) P1 I (by omega)).use ?_
                    rintro _ h2 ⟨rfl, P2, C2⟩
                    simp only [wk, wt, wl, ↓reduceIte, Nat.reduceEqDiff, Nat.reduceAdd, wz]
                    rw [hA, hA2]
                    exact ⟨P2, K1.rg.thenR C2⟩
                  · have d8 := decide_eq_false b8
                    by_cases b9 : b = 109
                    · have d9 := decide_eq_true b9
                      have hX : doX X l b = { X with attr := attrL X.attr l } := by rw [b9]; simp [doX]
                      simp only [hX]
                      simp only [wk, wt, wl, ↓reduceIte, Nat.reduceEqDiff, Nat.reduceAdd, wz, d1, d2, d3, d4, d5, d6, d7, d8, d9]
                      have hvx : blkOf v ≠ some x := fun e => by have := hvz x e; have := Q.xl; omega
                      refine W_loop (fun tm hh => tm 0 = pt x ∧ tm 9 = v ∧ Ch (Rg Fs h) h hh ∧ RdI prog hh .i64 v l ∧ ∃ (i : Nat) (a : Int), tm 17 = .int .i64 (i : Int) ∧ i ≤ l.length ∧ DX hh Fs x { X with attr := a } cv sv rv ps C S R ∧ attrL X.attr l = attrL a (l.drop i))
                        (fun tm _ => (l.length - intOf (tm 17)).toNat) ⟨(by first | rfl | (simp only [wk, wt, wl, ↓reduceIte, Nat.reduceEqDiff, Nat.reduceAdd, wz]; done) | (simp only [wk, wt, wl, ↓reduceIte, Nat.reduceEqDiff, Nat.reduceAdd, wz]; rfl)), (by first | rfl | (simp only [wk, wt, wl, ↓reduceIte, Nat.reduceEqDiff, Nat.reduceAdd, wz]; done) | (simp only [wk, wt, wl, ↓reduceIte, Nat.reduceEqDiff, Nat.reduceAdd, wz]; rfl)), K1.rg, RL, 0, X.attr, (by first | rfl | (simp only [wk, wt, wl, ↓reduceIte, Nat.reduceEqDiff, Nat.reduceAdd, wz]; done) | (simp only [wk, wt, wl, ↓reduceIte, Nat.reduceEqDiff, Nat.reduceAdd, wz]; rfl)), by omega, Q1, rfl⟩ ?_
                      rintro tm hh ⟨t0, t9, D, RV, i, a, t17, hi, Q2, hat⟩
                      simp only [wk, wt, wl, ↓reduceIte, Nat.reduceEqDiff, Nat.reduceAdd, wz, t0, t9, t17, RV.len underlying86]
                      refine condK_dec (fun hd => ?_) (fun hd => ?_)
                      · have hi1 : i < l.length := by omega
                        have IX := RV.index underlying86 asz3 (q := .i64) (i := (i : Int)) (by omega) (by omega)
                        have LX := RV.at (i := i) (t := 3) underlying3 rfl hi1
                        simp only [Int.toNat_natCast] at IX
                        have hdr : l.drop i = l.getD i 0 :: l.drop (i + 1) := by rw [List.drop_eq_getElem_cons hi1]; congr 1; simp [List.getD, List.getElem?_eq_getElem hi1]
                        rw [hdr] at hat
                        simp only [attrL] at hat
                        generalize l.getD i 0 = z at *
                        have wi : IntKind.i64.wrap ((i : Int) + 1) = ((i + 1 : Nat) : Int) := by rw [IntWalk.i64_in _ (by omega)]; omega
                        by_cases x0 : z = 0
                        · have dx0 := decide_eq_true x0
                          have dx7 : decide (z = 7) = false := decide_eq_false (by omega)
                          obtain ⟨h3, e3, V3, C3, z3⟩ := Q2.var.store1 (P := prog) (t := 3) (v := .int .i64 0) (i := 5) (Ch.wf D) asz3 (by simp [dF]) rfl
                          obtain ⟨Q3, D3⟩ := Q2.own (X' := { X with attr := 0 }) (Ch.wf D) C3 V3 rfl rfl rfl
                          have RV3 : RdI prog h3 .i64 v l := Ch.rd C3 RV (fun y hy e => hvx (by rw [hy, e]))
                          have LX3 := RV3.at (i := i) (t := 3) underlying3 rfl hi1
                          have hz : l.getD i 0 = z := by
                            have := RV.at (i := i) (t := 3) underlying3 rfl hi1
                            rw [LX] at this
                            simpa using this.symm
                          rw [hz] at LX3
                          rw [if_pos x0] at hat
                          simp only [wk, wt, wl, ↓reduceIte, Nat.reduceEqDiff, Nat.reduceAdd, wz, t0, t9, t17, pt, IX, LX, dx0, e3, LX3, dx7, wi, intOf_int]
                          exact ⟨⟨D.thenR D3, RV3, i + 1, 0, rfl, by omega, Q3, hat⟩, by omega⟩
                        · have dx0 := decide_eq_false x0
                          rw [if_neg x0] at hat
                          by_cases x7 : z = 7
                          · have dx7 := decide_eq_true x7
                            obtain ⟨h3, e3, V3, C3, z3⟩ := Q2.var.store1 (P := prog) (t := 3) (v := .int .i64 1) (i := 5) (Ch.wf D) asz3 (by simp [dF]) rfl
                            obtain ⟨Q3, D3⟩ := Q2.own (X' := { X with attr := 1 }) (Ch.wf D) C3 V3 rfl rfl rfl
                            rw [if_pos x7] at hat
                            simp only [wk, wt, wl, ↓reduceIte, Nat.reduceEqDiff, Nat.reduceAdd, wz, t0, t9, t17, pt, IX, LX, dx0, dx7, e3, wi, intOf_int]
                            exact ⟨⟨D.thenR D3, Ch.rd C3 RV (fun y hy e => hvx (by rw [hy, e])), i + 1, 1, rfl, by omega, Q3, hat⟩, by omega⟩
                          · have dx7 := decide_eq_false x7
                            rw [if_neg x7] at hat
                            simp only [wk, wt, wl, ↓reduceIte, Nat.reduceEqDiff, Nat.reduceAdd, wz, t0, t9, t17, pt, IX, LX, dx0, dx7, wi, intOf_int]
                            exact ⟨⟨D, RV, i + 1, a, rfl, by omega, Q2, hat⟩, by omega⟩
                      · obtain rfl : i = l.length := by omega
                        rw [List.drop_length] at hat
                        simp only [wk, wt, wl, ↓reduceIte, Nat.reduceEqDiff, Nat.reduceAdd, wz]
                        rw [hat]
                        exact ⟨⟨_, _, _, _, _, _, _, Q2⟩, D⟩
                    · have d9 := decide_eq_false b9
                      have hX : doX X l b = X := by
                        simp only [doX]
                        rw [if_neg hb0, if_neg b9, if_neg b1, if_neg b2, if_neg b3, if_neg b4, if_neg b5, if_neg b6, if_neg b7, if_neg b8]
                      simp only [hX]
                      simp only [wk, wt, wl, ↓reduceIte, Nat.reduceEqDiff, Nat.reduceAdd, wz, d1, d2, d3, d4, d5, d6, d7, d8, d9]
                      exact ⟨P1, K1.rg⟩
theorem refSequence_ok (P : DY h Fs x X) (I : Inv X) (RB : RdI prog h .u8 bv s) (hs : ∀ y, y ∈ s → isB y) (hl : s.length ≤ 32) :
    ACalls prog 44 #[pt x, bv, .int .u8 b] h (fun y h' => y = .tuple #[] ∧ DY h' Fs x (seqX X s b) ∧ Ch (Rg Fs h) h h') := by
  by_cases hb0 : b = 104 ∨ b = 108
  · exact seq_hide P RB hs hl hb0
  · exact seq_do P I RB hs hl hb0
end
end Go.Proofs.YthmpaddhmgnkbaaDoor.Am
end
section
/- The document's terminal: contracts of flush, one and Write, by walks. -/
set_option linter.unusedSimpArgs false
set_option linter.unusedVariables false
set_option maxHeartbeats 4000000
set_option maxRecDepth 20000
namespace Go.Proofs.YthmpaddhmgnkbaaDoor.Am
open Go Go.RowKit Go.Proofs.Tryd
theorem eraseX_st {X : TX} {q f t : Int} {n : Nat} : eraseX { X with st := n } q f t = { eraseX X q f t with st := n } := by
  unfold eraseX
  by_cases c0 : q = 0
  · simp only [if_pos c0]
  · simp only [if_neg c0]
    by_cases c1 : q = 1
    · simp only [if_pos c1]
    · simp only [if_neg c1]
      by_cases c2 : q = 2
      · simp only [if_pos c2]
      · simp only [if_neg c2]
theorem doX_st {X : TX} {l : List Int} {b : Int} {n : Nat} : doX { X with st := n } l b = { doX X l b with st := n } := by
  unfold doX
  simp only
  by_cases c0 : b = 104 ∨ b = 108
  · simp only [if_pos c0]
    by_cases c : (25 : Int) ∈ l
    · simp only [if_pos c]
    · simp only [if_neg c]
  · simp only [if_neg c0]
    by_cases c1 : b = 109
    · simp only [if_pos c1]
    · simp only [if_neg c1]
      by_cases c2 : b = 72
      · simp only [if_pos c2]; rfl
      · simp only [if_neg c2]
        by_cases c3 : b = 65
        · simp only [if_pos c3]; rfl
        · simp only [if_neg c3]
          by_cases c4 : b = 66
          · simp only [if_pos c4]; rfl
          · simp only [if_neg c4]
            by_cases c5 : b = 67
            · simp only [if_pos c5]; rfl
            · simp only [if_neg c5]
              by_cases c6 : b = 68
              · simp only [if_pos c6]; rfl
              · simp only [if_neg c6]
                by_cases c7 : b = 71
                · simp only [if_pos c7]; rfl
                · simp only [if_neg c7]
                  by_cases c8 : b = 74
                  · simp only [if_pos c8]; exact eraseX_st
                  · simp only [if_neg c8]
                    by_cases c9 : b = 75
                    · simp only [if_pos c9]; exact eraseX_st
                    · simp only [if_neg c9]
theorem seqX_st {X : TX} {s : List Int} {b : Int} {n : Nat} : seqX { X with st := n } s b = { seqX X s b with st := n } := by
  unfold seqX
  cases numsGo [] 0 (if asksB s = true then s.tail else s) with
  | none => rfl
  | some l =>
    simp only
    by_cases c : asksB s = decide (b = 104 ∨ b = 108)
    · simp only [if_pos c]; exact doX_st
    · simp only [if_neg c]
def sliceN : Option Value → Nat
  | some (Value.slice _ n _) => n
  | _ => 0
def heldLen (h : Heap) (x : Nat) : Nat := match h.get x with
  | some k => sliceN (k.cells[10]?)
  | none => 0
section
variable {h h' : Heap} {Fs : Nat → Prop} {x : Nat} {X X' : TX} {cv sv rv : Value} {ps : List PC} {C S R : Nat → Prop} {b : Int}
theorem DX.heldLen (Q : DX h Fs x X cv sv rv ps C S R) : heldLen h x = X.held.length := by
  obtain ⟨k, h1, h2, _⟩ := Q.var
  unfold Am.heldLen
  rw [h1]
  simp only [h2, dF, List.getElem?_cons_succ, List.getElem?_cons_zero]
  obtain ⟨⟨_, ⟨e, rfl | rfl⟩ | ⟨b, o, c, k', rfl, _⟩⟩, _⟩ := Q.ro
  · exact e.symm
  · exact e.symm
  · rfl
theorem DX.noHeld (Q : DX h Fs x X cv sv rv ps C S R) (H : Wf h) (K0 : Ch (fun y => y = x) h h') (V : Var h' x (dF { X with held := [] } cv sv (.slice none 0 0))) : DY h' Fs x { X with held := [] } ∧ Ch (Rg Fs h) h h' := by
  have K : Ch (Rg (fun n => R n ∨ n = x) h) h h' := (Ch.varRg Q.var K0).mono fun y r => r.mono fun n e => .inr e
  obtain ⟨⟨R', Q'⟩, D⟩ := Q.heldN (X' := { X with held := [] }) H K V OwnR.nil0 (fun z e => by cases e) rfl rfl
  exact ⟨⟨_, _, _, _, _, _, _, Q'⟩, D⟩
theorem refFlush_ok (P : DY h Fs x X) (I : Inv X) (hl : X.held.length ≤ 3) :
    ACalls prog 45 #[pt x] h (fun y h' => y = .tuple #[] ∧ DY h' Fs x { (List.replicate X.held.length (65533 : Int)).foldl putX X with held := [] } ∧ Ch (Rg Fs h) h h') := by
  refine acalls_of_W' func45 rfl (by kernel_rfl) (by kernel_rfl) (by simp [ntmps45]) ?_
  intro H
  simp only [wk, wt, wl, ↓reduceIte, Nat.reduceEqDiff, Nat.reduceAdd, wz]
  refine W_loop (fun tm hh => tm 0 = pt x ∧ Ch (Rg Fs h) h hh ∧ ∃ i : Nat, tm 2 = .int .i64 (i : Int) ∧ i ≤ X.held.length ∧ DY hh Fs x ((List.replicate i (65533 : Int)).foldl putX X))
    (fun tm _ => (X.held.length - intOf (tm 2)).toNat) ⟨(by first | rfl | (simp only [wk, wt, wl, ↓reduceIte, Nat.reduceEqDiff, Nat.reduceAdd, wz]; done) | (simp only [wk, wt, wl, ↓reduceIte, Nat.reduceEqDiff, Nat.reduceAdd, wz]; rfl)), (Keeps.refl H).rg, 0, (by first | rfl | (simp only [wk, wt, wl, ↓reduceIte, Nat.reduceEqDiff, Nat.reduceAdd, wz]; done) | (simp only [wk, wt, wl, ↓reduceIte, Nat.reduceEqDiff, Nat.reduceAdd, wz]; rfl)), by omega, P⟩ ?_
  rintro tm hh ⟨t0, D, i, t2, hi, P1⟩
  have eh : ((List.replicate i (65533 : Int)).foldl putX X).held = X.held := foldl_seq.2
  have P1' := P1
  obtain ⟨cv, sv, rv, ps, C, S, R, Q⟩ := P1
  obtain ⟨l0, l1, l2, l3, l4, l5, l6, l7, l8, l9, l10⟩ := Q.load
  have LR := Q.ro.1.len underlying30
  rw [eh] at LR
  simp only [wk, wt, wl, ↓reduceIte, Nat.reduceEqDiff, Nat.reduceAdd, wz, t0, t2, pt, l10, LR]
  refine condK_dec (fun hd => ?_) (fun hd => ?_)
  · have wi : IntKind.i64.wrap ((i : Int) + 1) = ((i + 1 : Nat) : Int) := by rw [IntWalk.i64_in _ (by omega)]; omega
    simp only [wk, wt, wl, ↓reduceIte, Nat.reduceEqDiff, Nat.reduceAdd, wz, t0, t2, pt]
    refine (refTyped_ok P1' (inv_foldl I) (by simp [isR])).use ?_
    rintro _ h2 ⟨rfl, P2, C2⟩
    simp only [wk, wt, wl, ↓reduceIte, Nat.reduceEqDiff, Nat.reduceAdd, wz, t0, t2, pt, wi, intOf_int]
    refine ⟨⟨D.thenR C2, i + 1, rfl, by omega, ?_⟩, by omega⟩
    have e : (List.replicate (i + 1) (65533 : Int)).foldl putX X = putX ((List.replicate i (65533 : Int)).foldl putX X) 65533 := by
      rw [List.replicate_succ', List.foldl_append]; rfl
    rw [e]; exact P2
  · obtain rfl : i = X.held.length := by omega
    obtain ⟨h2, e2, V2, C2, z2⟩ := Q.var.store1 (P := prog) (t := 30) (v := .slice none 0 0) (i := 10) (Ch.wf D) asz30 (by simp [dF]) rfl
    obtain ⟨P2, D2⟩ := Q.noHeld (Ch.wf D) C2 V2
    simp only [wk, wt, wl, ↓reduceIte, Nat.reduceEqDiff, Nat.reduceAdd, wz, t0, pt, e2]
    exact ⟨P2, D.thenR D2⟩
theorem one_plain (P : DY h Fs x X) (G : Good X) (h0 : X.st = 0) (hb : isB b) :
    ACalls prog 23 #[pt x, .int .u8 b] h (fun y h' => y = .tuple #[] ∧ DY h' Fs x (stepX X b) ∧ Ch (Rg Fs h) h h') := by
  refine acalls_of_W' func23 rfl (by kernel_rfl) (by kernel_rfl) (by simp [ntmps23]) ?_
  intro H
  have I := G.inv
  have P' := P
  obtain ⟨cv, sv, rv, ps, C, S, R, Q⟩ := P
  obtain ⟨l0, l1, l2, l3, l4, l5, l6, l7, l8, l9, l10⟩ := Q.load
  rw [h0] at l8
  have s1 : decide (((0 : Nat) : Int) = 1) = false := by decide
  have s2 : decide (((0 : Nat) : Int) = 2) = false := by decide
  have hS : stepX X b = if 32 ≤ b ∧ b ≠ 127 then feedX X b else ctlX (flushX X) b := by unfold stepX; rw [if_neg (by omega), if_neg (by omega)]
  rw [hS]
  by_cases hc : 32 ≤ b ∧ b ≠ 127
  · have d1 : decide (b < 32) = false := decide_eq_false (by omega)
    have d2 : decide (b = 127) = false := decide_eq_false hc.2
    rw [if_pos hc]
    obtain ⟨h2, e2, O2, z2, C2, _, _⟩ := Q.ro.append1 (P := prog) H (t := 30) underlying30 elem5 fits5 (by decide) (xs := [.int .u8 b]) rfl (by have := G.hl; omega)
    obtain ⟨rv', hrv⟩ : ∃ s, Value.slice (some ⟨h.size + 1, 0, none⟩) (X.held.length + 1) 0 = s := ⟨_, rfl⟩
    have hbk : ∀ z, blkOf rv' = some z → h.size + 1 ≤ z := fun z hz => by rw [← hrv] at hz; exact blk_new z hz
    rw [hrv] at e2 O2
    have CR : Ch (Rg R h) h h2 := C2.mono fun y d => FamV.rg Q.fr d
    have V2 := keepVar H Q.var CR Q.rx
    have htl := Q.xl
    obtain ⟨h3, e3, V3, C3, z3⟩ := V2.store1 (P := prog) (t := 30) (v := rv') (i := 10) (Ch.wf C2) asz30 (by simp [dF]) O2.1.one
    have O3 := Ch.ownR C3 O2 fun y hy e => by have := hbk y hy; omega
    have C23 : Ch (Rg (fun n => R n ∨ n = x) h) h h3 := (CR.mono (D' := Rg (fun n => R n ∨ n = x) h) fun y r => r.mono fun n e => .inl e).then C3 fun y e => .inr (by subst e; exact Q.var.rg (.inr rfl))
    have hO : OwnR prog h3 1 rv' (X.held ++ [b]).length ((X.held ++ [b]).map (Value.int .u8)) := by
      have := O3
      rw [List.length_append, List.length_singleton, List.map_append]; exact this
    obtain ⟨⟨R', Q3⟩, D3⟩ := Q.heldN (X' := { X with held := X.held ++ [b] }) H C23 V3 hO (fun z hz => .inl (by have := hbk z hz; omega)) rfl rfl
    have F := fedN_fed (X.held.length + 1) (X.held ++ [b]) (by simp)
    have hbb : ∀ y, y ∈ X.held ++ [b] → isB y := fun y hy => (List.mem_append.1 hy).elim (G.hb y) fun hy => by obtain rfl := List.mem_singleton.1 hy; exact hb
    have hR := F.isR hbb
    have hfe : feedX X b = { (fedN (X.held.length + 1) (X.held ++ [b])).1.foldl putX X with held := (fedN (X.held.length + 1) (X.held ++ [b])).2 } := rfl
    rw [hfe]
    generalize (fedN (X.held.length + 1) (X.held ++ [b])).1 = l at *
    generalize (fedN (X.held.length + 1) (X.held ++ [b])).2 = s at *
    simp only [wk, wt, wl, ↓reduceIte, Nat.reduceEqDiff, Nat.reduceAdd, wz, pt, l8, s1, s2, d1, d2, l10, bsB, e2, e3]
    refine W_loop (fun tm hh => tm 0 = pt x ∧ Ch (Rg Fs h) h hh ∧ ∃ (Y : TX) (bs l' : List Int), DY hh Fs x { Y with held := bs } ∧ Inv Y ∧ (∀ y, y ∈ bs → isB y) ∧ bs.length ≤ 4 ∧ Fed bs l' s ∧ l.foldl putX X = l'.foldl putX Y ∧ ∀ r, r ∈ l' → isR r)
      (fun tm hh => heldLen hh x) ⟨(by first | rfl | (simp only [wk, wt, wl, ↓reduceIte, Nat.reduceEqDiff, Nat.reduceAdd, wz]; done) | (simp only [wk, wt, wl, ↓reduceIte, Nat.reduceEqDiff, Nat.reduceAdd, wz]; rfl)), D3, X, X.held ++ [b], l, ⟨_, _, _, _, _, _, _, Q3⟩, I, hbb, by have := G.hl; simp; omega, F, rfl, hR⟩ ?_
    clear Q3 D3 hO C23 O3 V3 C3 e3 e2 O2 hbk V2 CR C2
    rintro tm hh ⟨t0, D, Y, bs, l', PY, IY, hby, hln, FY, hfold, hRY⟩
    obtain ⟨cv, sv, rv, ps, C, S, R, Q⟩ := PY
    obtain ⟨m0, m1, m2, m3, m4, m5, m6, m7, m8, m9, m10⟩ := Q.load
    have HL : heldLen hh x = bs.length := Q.heldLen
    have LR : abuiltin prog .len #[30] #[rv] = some (.int .i64 bs.length) := Q.ro.1.len underlying30
    have fin : l' = [] → s = bs → DY hh Fs x { l.foldl putX X with held := s } := fun e1 e2 => by
      rw [hfold, e1, e2]; exact ⟨_, _, _, _, _, _, _, Q⟩
    simp only [wk, wt, wl, ↓reduceIte, Nat.reduceEqDiff, Nat.reduceAdd, wz, t0, pt, m10, LR]
    refine condK_dec (fun hd => ?_) (fun hd => ?_)
    · have RN : RdI prog hh .u8 rv bs := Q.ro.1
      simp only [wk, wt, wl, ↓reduceIte, Nat.reduceEqDiff, Nat.reduceAdd, wz, t0, pt, m10]
      refine (refNext_ok RN hby (by omega)).use ?_
      rintro _ h4 ⟨rfl, K4⟩
      cases hz : nextZ bs with
      | none =>
        have hdet := Fed.det FY (.done hz)
        simp only [wk, wt, wl, ↓reduceIte, Nat.reduceEqDiff, Nat.reduceAdd, wz, nextT, hz]
        exact ⟨by
          have := fin hdet.1 hdet.2
          exact this.keeps (Ch.wf D) K4, D.thenR K4.rg⟩
      | some p =>
        obtain ⟨r, n⟩ := p
        have hle := nextZ_le hz
        obtain ⟨l2, rfl, F2⟩ : ∃ l2, l' = r :: l2 ∧ Fed (bs.drop n) l2 s := by
          cases FY with
          | done e => rw [hz] at e; cases e
          | step e t => rw [hz] at e; cases e; exact ⟨_, rfl, t⟩
        have P4 : DY h4 Fs x { Y with held := bs } := ⟨_, _, _, _, _, _, _, Q.keeps (Ch.wf D) K4⟩
        simp only [wk, wt, wl, ↓reduceIte, Nat.reduceEqDiff, Nat.reduceAdd, wz, nextT, hz, t0, pt]
        refine (refTyped_ok P4 (inv_held IY bs) (hRY r List.mem_cons_self)).use ?_
        rintro _ h5 ⟨rfl, P5, D5⟩
        rw [putX_held] at P5
        obtain ⟨cv5, sv5, rv5, ps5, C5, S5, R5, Q5⟩ := P5
        have m510 := Q5.load.2.2.2.2.2.2.2.2.2.2
        have RN5 : RdI prog h5 .u8 rv5 bs := Q5.ro.1
        have SL := RN5.sliceLo underlying30 asz5 (q := .i64) (i := (n : Int)) (by omega) (by omega)
        simp only [Int.toNat_natCast] at SL
        have H5 := Ch.wf D5
        obtain ⟨h6, e6, V6, C6, z6⟩ := Q5.var.store1 (P := prog) (t := 30) (v := sliceV rv5 1 n bs.length) (i := 10) H5 asz30 (by simp [dF]) (RN5.partLo (L := n) (by omega)).one
        have O6 := Ch.ownR C6 Q5.ro fun y hy e => by
          obtain ⟨k, g, _, _, _, hf, _⟩ := Q5.var
          exact Q5.rx (by have := Q5.fr y k hy (by rw [e]; exact g); rw [hf] at this; exact this)
        have O6' := O6.part (L := n) (H := bs.length) hle.2.1 (Nat.le_refl _)
        have hO : OwnR prog h6 1 (sliceV rv5 1 n bs.length) (bs.drop n).length ((bs.drop n).map (Value.int .u8)) := by
          have e : (List.take ((bs.length - n) * 1) (List.drop (n * 1) (bs.map (Value.int .u8)))) = (bs.drop n).map (Value.int .u8) := by
            rw [Nat.mul_one, Nat.mul_one, List.map_drop, List.take_of_length_le (by simp)]
          rw [List.length_drop, ← e]; exact O6'
        have C6' : Ch (Rg (fun n => R5 n ∨ n = x) h5) h5 h6 := (Ch.varRg Q5.var C6).mono fun y r => r.mono fun n e => .inr e
        obtain ⟨⟨R6, Q6⟩, D6⟩ := Q5.heldN (X' := { putX Y r with held := bs.drop n }) H5 C6' V6 hO (fun z hz => .inr (by rw [sliceV_blk] at hz; exact hz)) rfl rfl
        have HL6 : heldLen h6 x = (bs.drop n).length := Q6.heldLen
        simp only [wk, wt, wl, ↓reduceIte, Nat.reduceEqDiff, Nat.reduceAdd, wz, t0, pt, m510, SL, e6]
        exact ⟨⟨((D.thenR K4.rg).thenR D5).thenR D6, putX Y r, bs.drop n, l2, ⟨_, _, _, _, _, _, _, Q6⟩, inv_put IY r, fun y hy => hby y (List.mem_of_mem_drop hy), by rw [List.length_drop]; omega, F2, hfold, fun y hy => hRY y (List.mem_cons_of_mem _ hy)⟩, by rw [HL, HL6, List.length_drop]; omega⟩
    · have hn : bs = [] := List.eq_nil_of_length_eq_zero (by omega)
      have hz : nextZ bs = none := by rw [hn]; rfl
      have hdet := Fed.det FY (.done hz)
      simp only [wk, wt, wl, ↓reduceIte, Nat.reduceEqDiff, Nat.reduceAdd, wz]
      exact ⟨fin hdet.1 hdet.2, D⟩
  · rw [if_neg hc]
    have P := P'
    by_cases hlt : b < 32
    · have d1 := decide_eq_true hlt
      simp only [wk, wt, wl, ↓reduceIte, Nat.reduceEqDiff, Nat.reduceAdd, wz, pt, l8, s1, s2, d1]
      refine (refFlush_ok P I G.hl).use ?_
      rintro _ h1 ⟨rfl, P1, D1⟩
      obtain ⟨cv1, sv1, rv1, ps1, C1, S1, R1, Q1⟩ := P1
      obtain ⟨h2, e2, V2, C2, z2⟩ := Q1.var.store1 (P := prog) (t := 3) (v := .int .i64 (-1)) (i := 7) (Ch.wf D1) asz3 (by simp [dF]) rfl
      obtain ⟨Q2, D2⟩ := Q1.own (X' := flushX X) (Ch.wf D1) C2 V2 rfl rfl rfl
      have D12 := D1.thenR D2
      have hst2 : (flushX X).st = 0 := (foldl_st).trans h0
      have IZ : Inv (flushX X) := by
        unfold flushX
        exact inv_nolast (inv_held (inv_foldl I) [])
      generalize flushX X = Z at *
      have hcr := IZ.c; have hrr := IZ.r; have hro := IZ.row; have hco := IZ.col
      obtain ⟨m0, m1, m2, m3, m4, m5, m6, m7, m8, m9, m10⟩ := Q2.load
      have P2 : DY h2 Fs x Z := ⟨_, _, _, _, _, _, _, Q2⟩
      by_cases b27 : b = 27
      · have e27 := decide_eq_true b27
        obtain ⟨h3, e3, V3, C3, z3⟩ := Q2.var.store1 (P := prog) (t := 3) (v := .int .i64 1) (i := 8) (Ch.wf C2) asz3 (by simp [dF]) rfl
        obtain ⟨Q3, D3⟩ := Q2.own (X' := { Z with st := 1 }) (Ch.wf C2) C3 V3 rfl rfl rfl
        have hX : ctlX Z b = { Z with st := 1 } := by unfold ctlX; rw [if_pos b27]
        rw [hX]
        simp only [wk, wt, wl, ↓reduceIte, Nat.reduceEqDiff, Nat.reduceAdd, wz, pt, e2, e27, e3]
        exact ⟨⟨_, _, _, _, _, _, _, Q3⟩, D12.thenR D3⟩
      · have e27 := decide_eq_false b27
        by_cases b13 : b = 13
        · have e13 := decide_eq_true b13
          obtain ⟨h3, e3, V3, C3, z3⟩ := Q2.var.store1 (P := prog) (t := 3) (v := .int .i64 0) (i := 4) (Ch.wf C2) asz3 (by simp [dF]) rfl
          obtain ⟨Q3, D3⟩ := Q2.own (X' := { Z with col := 0 }) (Ch.wf C2) C3 V3 rfl rfl rfl
          have hX : ctlX Z b = { Z with col := 0 } := by unfold ctlX; rw [if_neg b27, if_pos b13]
          rw [hX]
          simp only [wk, wt, wl, ↓reduceIte, Nat.reduceEqDiff, Nat.reduceAdd, wz, pt, e2, e27, e13, e3]
          exact ⟨⟨_, _, _, _, _, _, _, Q3⟩, D12.thenR D3⟩
        · have e13 := decide_eq_false b13
          by_cases b10 : b = 10
          · have e10 := decide_eq_true b10
            have hX : ctlX Z b = moveX Z (Z.row + 1) Z.col := by unfold ctlX; rw [if_neg b27, if_neg b13, if_pos b10]
            have w1 : IntKind.i64.wrap (Z.row + 1) = Z.row + 1 := IntWalk.i64_in _ (by omega)
            rw [hX]
            simp only [wk, wt, wl, ↓reduceIte, Nat.reduceEqDiff, Nat.reduceAdd, wz, pt, e2, e27, e13, e10]
            refine adraw_order [(0, false), (1, false), (2, false), (3, false), (4, false), (5, false), (6, false), (7, false), (8, false), (9, false), (10, false), (11, false), (12, false)] mixed (by kernel_rfl) (by kernel_rfl) (by kernel_rfl) (by with_reducible repeat (first | exact PF_retK | refine PF_thenK ?_ | refine PF_blockK ?_)) ?_
            simp only [wk, wt, wl, ↓reduceIte, Nat.reduceEqDiff, Nat.reduceAdd, wz, dK_t, pt, m3, m4, w1]
            refine (refGoes_ok P2 IZ.r IZ.c).use ?_
            rintro _ h3 ⟨rfl, P3, D3⟩
            simp only [wk, wt, wl, ↓reduceIte, Nat.reduceEqDiff, Nat.reduceAdd, wz]
            exact ⟨P3, D12.thenR D3⟩
          · have e10 := decide_eq_false b10
            by_cases b8 : b = 8
            · have e8 := decide_eq_true b8
              have hX : ctlX Z b = moveX Z Z.row (Z.col - 1) := by unfold ctlX; rw [if_neg b27, if_neg b13, if_neg b10, if_pos b8]
              have w1 : IntKind.i64.wrap (Z.col - 1) = Z.col - 1 := IntWalk.i64_in _ (by omega)
              rw [hX]
              simp only [wk, wt, wl, ↓reduceIte, Nat.reduceEqDiff, Nat.reduceAdd, wz, pt, e2, e27, e13, e10, e8]
              refine adraw_order [(0, false), (1, false), (2, false), (3, false), (4, false), (5, false), (6, false), (7, false), (8, false), (9, false), (10, false), (11, false), (12, false)] mixed (by kernel_rfl) (by kernel_rfl) (by kernel_rfl) (by with_reducible repeat (first | exact PF_retK | refine PF_thenK ?_ | refine PF_blockK ?_)) ?_
              simp only [wk, wt, wl, ↓reduceIte, Nat.reduceEqDiff, Nat.reduceAdd, wz, dK_t, pt, m3, m4, w1]
              refine (refGoes_ok P2 IZ.r IZ.c).use ?_
              rintro _ h3 ⟨rfl, P3, D3⟩
              simp only [wk, wt, wl, ↓reduceIte, Nat.reduceEqDiff, Nat.reduceAdd, wz]
              exact ⟨P3, D12.thenR D3⟩
            · have e8 := decide_eq_false b8
              have hX : ctlX Z b = Z := by unfold ctlX; rw [if_neg b27, if_neg b13, if_neg b10, if_neg b8]
              rw [hX]
              simp only [wk, wt, wl, ↓reduceIte, Nat.reduceEqDiff, Nat.reduceAdd, wz, pt, e2, e27, e13, e10, e8]
              exact ⟨P2, D12⟩
    · have d1 := decide_eq_false hlt
      have d2 : decide (b = 127) = true := decide_eq_true (by omega)
      simp only [wk, wt, wl, ↓reduceIte, Nat.reduceEqDiff, Nat.reduceAdd, wz, pt, l8, s1, s2, d1, d2]
      refine (refFlush_ok P I G.hl).use ?_
      rintro _ h1 ⟨rfl, P1, D1⟩
      obtain ⟨cv1, sv1, rv1, ps1, C1, S1, R1, Q1⟩ := P1
      obtain ⟨h2, e2, V2, C2, z2⟩ := Q1.var.store1 (P := prog) (t := 3) (v := .int .i64 (-1)) (i := 7) (Ch.wf D1) asz3 (by simp [dF]) rfl
      obtain ⟨Q2, D2⟩ := Q1.own (X' := flushX X) (Ch.wf D1) C2 V2 rfl rfl rfl
      have D12 := D1.thenR D2
      have hst2 : (flushX X).st = 0 := (foldl_st).trans h0
      have IZ : Inv (flushX X) := by
        unfold flushX
        exact inv_nolast (inv_held (inv_foldl I) [])
      generalize flushX X = Z at *
      have hcr := IZ.c; have hrr := IZ.r; have hro := IZ.row; have hco := IZ.col
      obtain ⟨m0, m1, m2, m3, m4, m5, m6, m7, m8, m9, m10⟩ := Q2.load
      have P2 : DY h2 Fs x Z := ⟨_, _, _, _, _, _, _, Q2⟩
      by_cases b27 : b = 27
      · have e27 := decide_eq_true b27
        obtain ⟨h3, e3, V3, C3, z3⟩ := Q2.var.store1 (P := prog) (t := 3) (v := .int .i64 1) (i := 8) (Ch.wf C2) asz3 (by simp [dF]) rfl
        obtain ⟨Q3, D3⟩ := Q2.own (X' := { Z with st := 1 }) (Ch.wf C2) C3 V3 rfl rfl rfl
        have hX : ctlX Z b = { Z with st := 1 } := by unfold ctlX; rw [if_pos b27]
        rw [hX]
        simp only [wk, wt, wl, ↓reduceIte, Nat.reduceEqDiff, Nat.reduceAdd, wz, pt, e2, e27, e3]
        exact ⟨⟨_, _, _, _, _, _, _, Q3⟩, D12.thenR D3⟩
      · have e27 := decide_eq_false b27
        by_cases b13 : b = 13
        · have e13 := decide_eq_true b13
          obtain ⟨h3, e3, V3, C3, z3⟩ := Q2.var.store1 (P := prog) (t := 3) (v := .int .i64 0) (i := 4) (Ch.wf C2) asz3 (by simp [dF]) rfl
          obtain ⟨Q3, D3⟩ := Q2.own (X' := { Z with col := 0 }) (Ch.wf C2) C3 V3 rfl rfl rfl
          have hX : ctlX Z b = { Z with col := 0 } := by unfold ctlX; rw [if_neg b27, if_pos b13]
          rw [hX]
          simp only [wk, wt, wl, ↓reduceIte, Nat.reduceEqDiff, Nat.reduceAdd, wz, pt, e2, e27, e13, e3]
          exact ⟨⟨_, _, _, _, _, _, _, Q3⟩, D12.thenR D3⟩
        · have e13 := decide_eq_false b13
          by_cases b10 : b = 10
          · have e10 := decide_eq_true b10
            have hX : ctlX Z b = moveX Z (Z.row + 1) Z.col := by unfold ctlX; rw [if_neg b27, if_neg b13, if_pos b10]
            have w1 : IntKind.i64.wrap (Z.row + 1) = Z.row + 1 := IntWalk.i64_in _ (by omega)
            rw [hX]
            simp only [wk, wt, wl, ↓reduceIte, Nat.reduceEqDiff, Nat.reduceAdd, wz, pt, e2, e27, e13, e10]
            refine adraw_order [(0, false), (1, false), (2, false), (3, false), (4, false), (5, false), (6, false), (7, false), (8, false), (9, false), (10, false), (11, false), (12, false)] mixed (by kernel_rfl) (by kernel_rfl) (by kernel_rfl) (by with_reducible repeat (first | exact PF_retK | refine PF_thenK ?_ | refine PF_blockK ?_)) ?_
            simp only [wk, wt, wl, ↓reduceIte, Nat.reduceEqDiff, Nat.reduceAdd, wz, dK_t, pt, m3, m4, w1]
            refine (refGoes_ok P2 IZ.r IZ.c).use ?_
            rintro _ h3 ⟨rfl, P3, D3⟩
            simp only [wk, wt, wl, ↓reduceIte, Nat.reduceEqDiff, Nat.reduceAdd, wz]
            exact ⟨P3, D12.thenR D3⟩
          · have e10 := decide_eq_false b10
            by_cases b8 : b = 8
            · have e8 := decide_eq_true b8
              have hX : ctlX Z b = moveX Z Z.row (Z.col - 1) := by unfold ctlX; rw [if_neg b27, if_neg b13, if_neg b10, if_pos b8]
              have w1 : IntKind.i64.wrap (Z.col - 1) = Z.col - 1 := IntWalk.i64_in _ (by omega)
              rw [hX]
              simp only [wk, wt, wl, ↓reduceIte, Nat.reduceEqDiff, Nat.reduceAdd, wz, pt, e2, e27, e13, e10, e8]
              refine adraw_order [(0, false), (1, false), (2, false), (3, false), (4, false), (5, false), (6, false), (7, false), (8, false), (9, false), (10, false), (11, false), (12, false)] mixed (by kernel_rfl) (by kernel_rfl) (by kernel_rfl) (by with_reducible repeat (first | exact PF_retK | refine PF_thenK ?_ | refine PF_blockK ?_)) ?_
              simp only [wk, wt, wl, ↓reduceIte, Nat.reduceEqDiff, Nat.reduceAdd, wz, dK_t, pt, m3, m4, w1]
              refine (refGoes_ok P2 IZ.r IZ.c).use ?_
              rintro _ h3 ⟨rfl, P3, D3⟩
              simp only [wk, wt, wl, ↓reduceIte, Nat.reduceEqDiff, Nat.reduceAdd, wz]
              exact ⟨P3, D12.thenR D3⟩
            · have e8 := decide_eq_false b8
              have hX : ctlX Z b = Z := by unfold ctlX; rw [if_neg b27, if_neg b13, if_neg b10, if_neg b8]
              rw [hX]
              simp only [wk, wt, wl, ↓reduceIte, Nat.reduceEqDiff, Nat.reduceAdd, wz, pt, e2, e27, e13, e10, e8]
              exact ⟨P2, D12⟩
end
end Go.Proofs.YthmpaddhmgnkbaaDoor.Am
end
section
/- The document's terminal: contracts of one and Write, by walks; its steps for laws. -/
set_option linter.unusedSimpArgs false
set_option linter.unusedVariables false
set_option maxHeartbeats 4000000
set_option maxRecDepth 20000
namespace Go.Proofs.YthmpaddhmgnkbaaDoor.Am
open Go Go.RowKit Go.Proofs.Tryd
section
variable {h0 h h' : Heap} {Fs Gs : Nat → Prop} {x : Nat} {X X' : TX} {cv sv rv bv : Value} {ps : List PC} {C S R : Nat → Prop} {b : Int}
theorem one_behind (P : DY h Fs x X) (h1 : X.st = 1) :
    ACalls prog 23 #[pt x, .int .u8 b] h (fun y h' => y = .tuple #[] ∧ DY h' Fs x (stepX X b) ∧ Ch (Rg Fs h) h h') := by
  refine acalls_of_W' func23 rfl (by kernel_rfl) (by kernel_rfl) (by simp [ntmps23]) ?_
  intro H
  obtain ⟨cv, sv, rv, ps, C, S, R, Q⟩ := P
  obtain ⟨l0, l1, l2, l3, l4, l5, l6, l7, l8, l9, l10⟩ := Q.load
  rw [h1] at l8
  have s1 : decide (((1 : Nat) : Int) = 1) = true := by decide
  obtain ⟨h2, e2, V2, C2, z2⟩ := Q.var.store1 (P := prog) (t := 3) (v := .int .i64 0) (i := 8) H asz3 (by simp [dF]) rfl
  obtain ⟨Q2, D2⟩ := Q.own (X' := { X with st := 0 }) H C2 V2 rfl rfl rfl
  by_cases b91 : b = 91
  · have d := decide_eq_true b91
    have hX : stepX X b = { X with st := 2, seq := [] } := by unfold stepX; rw [if_pos h1, if_pos b91]
    rw [hX]
    obtain ⟨h3, e3, V3, C3, z3⟩ := Q2.var.store1 (P := prog) (t := 3) (v := .int .i64 2) (i := 8) (Ch.wf C2) asz3 (by simp [dF]) rfl
    obtain ⟨Q3, D3⟩ := Q2.own (X' := { X with st := 2 }) (Ch.wf C2) C3 V3 rfl rfl rfl
    obtain ⟨h4, e4, V4, C4, z4⟩ := Q3.var.store1 (P := prog) (t := 30) (v := .slice none 0 0) (i := 9) (Ch.wf C3) asz30 (by simp [dF]) rfl
    have K : Ch (Rg (fun n => S n ∨ n = x) h3) h3 h4 := (Ch.varRg Q3.var C4).mono fun y r => r.mono fun n e => .inr e
    obtain ⟨⟨S', Q4⟩, D4⟩ := Q3.seqN (X' := { X with st := 2, seq := [] }) (Ch.wf C3) K V4 OwnR.nil0 (fun z e => by cases e) rfl rfl
    simp only [wk, wt, wl, ↓reduceIte, Nat.reduceEqDiff, Nat.reduceAdd, wz, pt, l8, s1, e2, d, e3, e4]
    exact ⟨⟨_, _, _, _, _, _, _, Q4⟩, (D2.thenR D3).thenR D4⟩
  · have d := decide_eq_false b91
    have hX : stepX X b = { X with st := 0 } := by unfold stepX; rw [if_pos h1, if_neg b91]
    rw [hX]
    simp only [wk, wt, wl, ↓reduceIte, Nat.reduceEqDiff, Nat.reduceAdd, wz, pt, l8, s1, e2, d]
    exact ⟨⟨_, _, _, _, _, _, _, Q2⟩, D2⟩
theorem one_inside (P : DY h Fs x X) (G : Good X) (h2 : X.st = 2) :
    ACalls prog 23 #[pt x, .int .u8 b] h (fun y h' => y = .tuple #[] ∧ DY h' Fs x (stepX X b) ∧ Ch (Rg Fs h) h h') := by
  refine acalls_of_W' func23 rfl (by kernel_rfl) (by kernel_rfl) (by simp [ntmps23]) ?_
  intro H
  obtain ⟨cv, sv, rv, ps, C, S, R, Q⟩ := P
  obtain ⟨l0, l1, l2, l3, l4, l5, l6, l7, l8, l9, l10⟩ := Q.load
  rw [h2] at l8
  have s1 : decide (((2 : Nat) : Int) = 1) = false := by decide
  have s2 : decide (((2 : Nat) : Int) = 2) = true := by decide
  have LS := Q.so.1.len underlying30
  have hsl := G.sl
  by_cases hin : 32 ≤ b ∧ b ≤ 63
  · have d1 := decide_eq_true hin.1
    have d2 := decide_eq_true hin.2
    by_cases h32 : X.seq.length < 32
    · have d3 : decide ((X.seq.length : Int) < 32) = true := decide_eq_true (by omega)
      have hX : stepX X b = { X with seq := X.seq ++ [b] } := by unfold stepX; rw [if_neg (by omega), if_pos h2, if_pos hin, if_pos h32]
      rw [hX]
      obtain ⟨h2', e2, O2, z2, C2, _, _⟩ := Q.so.append1 (P := prog) H (t := 30) underlying30 elem5 fits5 (by decide) (xs := [.int .u8 b]) rfl (by omega)
      obtain ⟨sv', hsv⟩ : ∃ s, Value.slice (some ⟨h.size + 1, 0, none⟩) (X.seq.length + 1) 0 = s := ⟨_, rfl⟩
      have hbk : ∀ z, blkOf sv' = some z → h.size + 1 ≤ z := fun z hz => by rw [← hsv] at hz; exact blk_new z hz
      rw [hsv] at e2 O2
      have CR : Ch (Rg S h) h h2' := C2.mono fun y d => FamV.rg Q.fs d
      have V2 := keepVar H Q.var CR Q.sx
      have htl := Q.xl
      obtain ⟨h3, e3, V3, C3, z3⟩ := V2.store1 (P := prog) (t := 30) (v := sv') (i := 9) (Ch.wf C2) asz30 (by simp [dF]) O2.1.one
      have O3 := Ch.ownR C3 O2 fun y hy e => by have := hbk y hy; omega
      have C23 : Ch (Rg (fun n => S n ∨ n = x) h) h h3 := (CR.mono (D' := Rg (fun n => S n ∨ n = x) h) fun y r => r.mono fun n e => .inl e).then C3 fun y e => .inr (by subst e; exact Q.var.rg (.inr rfl))
      have hO : OwnR prog h3 1 sv' (X.seq ++ [b]).length ((X.seq ++ [b]).map (Value.int .u8)) := by
        have := O3
        rw [List.length_append, List.length_singleton, List.map_append]; exact this
      obtain ⟨⟨S', Q3⟩, D3⟩ := Q.seqN (X' := { X with seq := X.seq ++ [b] }) H C23 V3 hO (fun z hz => .inl (by have := hbk z hz; omega)) rfl rfl
      simp only [wk, wt, wl, ↓reduceIte, Nat.reduceEqDiff, Nat.reduceAdd, wz, pt, l8, s1, s2, d1, d2, l9, LS, d3, bsB, e2, e3]
      exact ⟨⟨_, _, _, _, _, _, _, Q3⟩, D3⟩
    · have d3 : decide ((X.seq.length : Int) < 32) = false := decide_eq_false (by omega)
      have hX : stepX X b = X := by unfold stepX; rw [if_neg (by omega), if_pos h2, if_pos hin, if_neg h32]
      rw [hX]
      simp only [wk, wt, wl, ↓reduceIte, Nat.reduceEqDiff, Nat.reduceAdd, wz, pt, l8, s1, s2, d1, d2, l9, LS, d3]
      exact ⟨⟨_, _, _, _, _, _, _, Q⟩, (Keeps.refl H).rg⟩
  · obtain ⟨h2', e2, V2, C2, z2⟩ := Q.var.store1 (P := prog) (t := 3) (v := .int .i64 0) (i := 8) H asz3 (by simp [dF]) rfl
    obtain ⟨Q2, D2⟩ := Q.own (X' := { X with st := 0 }) H C2 V2 rfl rfl rfl
    have P2 : DY h2' Fs x { X with st := 0 } := ⟨_, _, _, _, _, _, _, Q2⟩
    have m9 := Q2.load.2.2.2.2.2.2.2.2.2.1
    have RS2 : RdI prog h2' .u8 sv X.seq := Q2.so.1
    have fin0 : stepX X b = { X with st := 0 } → DY h2' Fs x (stepX X b) ∧ Ch (Rg Fs h) h h2' := fun e => by rw [e]; exact ⟨P2, D2⟩
    by_cases hm : 64 ≤ b ∧ b < 127
    · have d4 := decide_eq_true hm.1
      have d5 : decide (b ≤ 126) = true := decide_eq_true (by omega)
      have d1 : decide (32 ≤ b) = true := decide_eq_true (by omega)
      have d2 : decide (b ≤ 63) = false := decide_eq_false (by omega)
      have hX : stepX X b = { seqX X X.seq b with st := 0 } := by unfold stepX; rw [if_neg (by omega), if_pos h2, if_neg hin, if_pos hm]
      rw [hX, ← seqX_st]
      simp only [wk, wt, wl, ↓reduceIte, Nat.reduceEqDiff, Nat.reduceAdd, wz, pt, l8, s1, s2, d1, d2, e2, d4, d5, m9]
      refine (refSequence_ok P2 (inv_st G.inv 0 X.seq) RS2 G.sb hsl).use ?_
      rintro _ h3 ⟨rfl, P3, D3⟩
      simp only [wk, wt, wl, ↓reduceIte, Nat.reduceEqDiff, Nat.reduceAdd, wz]
      exact ⟨P3, D2.thenR D3⟩
    · have hX : stepX X b = { X with st := 0 } := by unfold stepX; rw [if_neg (by omega), if_pos h2, if_neg hin, if_neg hm]
      by_cases b1 : b < 32
      · have d1 : decide (32 ≤ b) = false := decide_eq_false (by omega)
        have d4 : decide (64 ≤ b) = false := decide_eq_false (by omega)
        simp only [wk, wt, wl, ↓reduceIte, Nat.reduceEqDiff, Nat.reduceAdd, wz, pt, l8, s1, s2, d1, e2, d4]
        exact fin0 hX
      · have d1 : decide (32 ≤ b) = true := decide_eq_true (by omega)
        have d2 : decide (b ≤ 63) = false := decide_eq_false (by omega)
        have d4 : decide (64 ≤ b) = true := decide_eq_true (by omega)
        have d5 : decide (b ≤ 126) = false := decide_eq_false (by omega)
        simp only [wk, wt, wl, ↓reduceIte, Nat.reduceEqDiff, Nat.reduceAdd, wz, pt, l8, s1, s2, d1, d2, e2, d4, d5]
        exact fin0 hX
theorem refOne_ok (P : DY h Fs x X) (G : Good X) (hb : isB b) :
    ACalls prog 23 #[pt x, .int .u8 b] h (fun y h' => y = .tuple #[] ∧ DY h' Fs x (stepX X b) ∧ Ch (Rg Fs h) h h') := by
  have := G.st
  by_cases h0 : X.st = 0
  · exact one_plain P G h0 hb
  · by_cases h1 : X.st = 1
    · exact one_behind P h1
    · exact one_inside P G (by omega)
theorem refWrite_ok {bs : List Int} (P : DY h Fs x X) (G : Good X) (R : RdI prog h .u8 bv bs) (hbv : Fam h (fun n => ¬ Fs n) bv) (hb : ∀ y, y ∈ bs → isB y) (hl : bs.length ≤ 1000000) :
    ACalls prog 12 #[pt x, bv] h (fun y h' => y = .tuple #[] ∧ DY h' Fs x (writeX X bs) ∧ Ch (Rg Fs h) h h') := by
  refine acalls_of_W' func12 rfl (by kernel_rfl) (by kernel_rfl) (by simp [ntmps12]) ?_
  intro H
  simp only [wk, wt, wl, ↓reduceIte, Nat.reduceEqDiff, Nat.reduceAdd, wz]
  refine W_loop (fun tm hh => tm 0 = pt x ∧ tm 1 = bv ∧ Ch (Rg Fs h) h hh ∧ ∃ (i : Nat) (Y : TX), tm 4 = .int .i64 (i : Int) ∧ i ≤ bs.length ∧ DY hh Fs x Y ∧ Good Y ∧ writeX X bs = writeX Y (bs.drop i))
    (fun tm _ => (bs.length - intOf (tm 4)).toNat) ⟨(by first | rfl | (simp only [wk, wt, wl, ↓reduceIte, Nat.reduceEqDiff, Nat.reduceAdd, wz]; done) | (simp only [wk, wt, wl, ↓reduceIte, Nat.reduceEqDiff, Nat.reduceAdd, wz]; rfl)), (by first | rfl | (simp only [wk, wt, wl, ↓reduceIte, Nat.reduceEqDiff, Nat.reduceAdd, wz]; done) | (simp only [wk, wt, wl, ↓reduceIte, Nat.reduceEqDiff, Nat.reduceAdd, wz]; rfl)), (Keeps.refl H).rg, 0, X, (by first | rfl | (simp only [wk, wt, wl, ↓reduceIte, Nat.reduceEqDiff, Nat.reduceAdd, wz]; done) | (simp only [wk, wt, wl, ↓reduceIte, Nat.reduceEqDiff, Nat.reduceAdd, wz]; rfl)), by omega, P, G, rfl⟩ ?_
  rintro tm hh ⟨t0, t1, D, i, Y, t4, hi, PY, GY, hw⟩
  have R1 : RdI prog hh .u8 bv bs := Ch.rd D R (hbv.apart (Gs := Fs) fun n a b => a b)
  have LB := R1.len underlying30
  simp only [wk, wt, wl, ↓reduceIte, Nat.reduceEqDiff, Nat.reduceAdd, wz, t0, t1, t4, LB]
  refine condK_dec (fun hd => ?_) (fun hd => ?_)
  · have hi1 : i < bs.length := by omega
    have IX := R1.index underlying30 asz5 (q := .i64) (i := (i : Int)) (by omega) (by omega)
    have LX := R1.at (i := i) (t := 5) underlying5 rfl hi1
    simp only [Int.toNat_natCast] at IX
    have hdr : bs.drop i = bs.getD i 0 :: bs.drop (i + 1) := by rw [List.drop_eq_getElem_cons hi1]; congr 1; simp [List.getD, List.getElem?_eq_getElem hi1]
    have hxb : isB (bs.getD i 0) := hb _ (by simp [List.getD, List.getElem?_eq_getElem hi1])
    rw [hdr] at hw
    have hw : writeX X bs = writeX (stepX Y (bs.getD i 0)) (bs.drop (i + 1)) := hw
    have wi : IntKind.i64.wrap ((i : Int) + 1) = ((i + 1 : Nat) : Int) := by rw [IntWalk.i64_in _ (by omega)]; omega
    simp only [wk, wt, wl, ↓reduceIte, Nat.reduceEqDiff, Nat.reduceAdd, wz, t0, t1, t4, IX, LX]
    refine (refOne_ok PY GY hxb).use ?_
    rintro _ h2 ⟨rfl, P2, D2⟩
    simp only [wk, wt, wl, ↓reduceIte, Nat.reduceEqDiff, Nat.reduceAdd, wz, t0, t1, t4, wi, intOf_int]
    exact ⟨⟨D.thenR D2, i + 1, _, rfl, by omega, P2, good_step GY hxb, hw⟩, by omega⟩
  · obtain rfl : i = bs.length := by omega
    rw [List.drop_length] at hw
    have hw : writeX X bs = Y := hw
    simp only [wk, wt, wl, ↓reduceIte, Nat.reduceEqDiff, Nat.reduceAdd, wz]
    rw [hw]
    exact ⟨PY, D⟩
/-- The document's terminal between calls. -/
structure DD (h0 h : Heap) (Fs : Nat → Prop) (x : Nat) (X : TX) : Prop where
  pm : DY h Fs x X
  good : Good X
  k : Keeps h0 h
  f : ∀ n, Fs n → h0.size ≤ n
theorem DD.up (T : DD h0 h Fs x X) : ∀ n, h.size ≤ n → Fs n := by
  obtain ⟨cv, sv, rv, ps, C, S, R, Q⟩ := T.pm
  exact Q.up
theorem DD.wf (T : DD h0 h Fs x X) : Wf h := Ch.wf T.k
theorem DD.aside (T : DD h0 h Fs x X) (K : Ch (Rg Gs h) h h') (hd : ∀ n, n < h.size → Fs n → ¬ Gs n) (hg : ∀ n, Gs n → h0.size ≤ n) : DD h0 h' (Nar Fs h.size h'.size) x X := by
  obtain ⟨cv, sv, rv, ps, C, S, R, Q⟩ := T.pm
  have hle := Ch.le T.k
  have hle2 := Ch.le K
  exact ⟨⟨_, _, _, _, _, _, _, Q.aside T.wf K hd⟩, T.good, T.k.step K fun y ⟨k, g, f⟩ => Nat.le_trans (hg _ f) (T.wf.2 y k g), fun n hn => hn.elim (fun hn => T.f n hn.1) fun hn => by omega⟩
theorem DD.keeps (T : DD h0 h Fs x X) (K : Keeps h h') : DD h0 h' (Nar Fs h.size h'.size) x X := T.aside (Gs := fun _ => False) K.rg (fun n _ _ e => e) fun n e => e.elim
theorem newDD {r c : Int} {h : Heap} : ACalls prog 19 #[.int .i64 r, .int .i64 c] h (fun y h' => ∃ x, y = pt x ∧ h.size ≤ x ∧ DD h h' (fun n => h.size ≤ n) x (newX r c) ∧ Keeps h h') := by
  refine refNew_ok.mono ?_
  rintro y h' ⟨x, rfl, hx, P, K⟩
  exact ⟨x, rfl, hx, ⟨P, good_new r c, K, fun n hn => hn⟩, K⟩
theorem DD.write {bs : List Int} (T : DD h0 h Fs x X) (R : RdI prog h .u8 bv bs) (hbv : Fam h (fun n => ¬ Fs n) bv) (hb : ∀ y, y ∈ bs → isB y) (hl : bs.length ≤ 1000000) :
    ACalls prog 12 #[pt x, bv] h (fun y h' => y = .tuple #[] ∧ DD h0 h' Fs x (writeX X bs) ∧ Ch (Rg Fs h) h h') := by
  refine (refWrite_ok T.pm T.good R hbv hb hl).mono ?_
  rintro y h' ⟨rfl, P, K⟩
  exact ⟨rfl, ⟨P, good_write T.good hb, T.k.step K fun y ⟨k, g, f⟩ => Nat.le_trans (T.f _ f) (T.wf.2 y k g), T.f⟩, K⟩
theorem DD.base {h1 : Heap} (T : DD h1 h Fs x X) (K : Keeps h0 h1) : DD h0 h Fs x X := ⟨T.pm, T.good, K.trans T.k, fun n hn => Nat.le_trans (Ch.le K) (T.f n hn)⟩
/-- Its grid, where it lies. -/
theorem DD.gd (T : DD h0 h Fs x X) : ∃ cv, aload prog h 24 ⟨x, 0, none⟩ = some (gV X cv) ∧ GD h Fs cv X.cells ∧ aload prog h 3 ⟨x, 5, none⟩ = some (.int .i64 X.attr) ∧ aload prog h 4 ⟨x, 6, none⟩ = some (.bool X.hid) := by
  obtain ⟨cv, sv, rv, ps, C, S, R, Q⟩ := T.pm
  have LG := Q.var.loadP (P := prog) (t := 24) (i := 0) (s := 5) underlying24 rfl asz24 (by simp [dF])
  simp only [dF, List.drop_zero, List.take_succ_cons, List.take_zero] at LG
  exact ⟨cv, LG, ⟨ps, Q.gp.eq, Q.gp.rs, Q.fc.mono fun n hn => Q.mF n (.inl hn), fun p hp => ⟨Q.gp.rd p hp, (Q.gp.off p hp).mono fun n hn => hn.1⟩⟩, Q.load.2.2.2.2.2.1, Q.load.2.2.2.2.2.2.1⟩
end
end Go.Proofs.YthmpaddhmgnkbaaDoor.Am
end
section
/- Grids in plain terms and in memory; grids compared: contracts of slices.Equal, EqualFunc, grid.Same, and of the document's Cell, Same, by walks. -/
set_option linter.unusedSimpArgs false
set_option linter.unusedVariables false
set_option maxHeartbeats 4000000
set_option maxRecDepth 20000
namespace Go.Proofs.YthmpaddhmgnkbaaDoor.Am
open Go Go.RowKit Go.Proofs.Tryd
theorem newSz {h : Heap} {e : TypeId} {cs : List Value} : (h.new e cs).size = h.size + 1 := by have := new_size (h := h) (e := e) (cs := cs); omega
theorem RdI.ix {h : Heap} {v : Value} {l : List Int} (S : RdI prog h .i32 v l) {i : Nat} {x : Int} (hx : l[i]? = some x) :
    aindexAddr prog 43 v (.int .i64 (i : Int)) = some (.pointer (some (eltA v 1 i))) ∧ aload prog h 21 (eltA v 1 i) = some (.int .i32 x) := by
  obtain ⟨hi, e⟩ := List.getElem?_eq_some_iff.1 hx
  have h1 := S.index underlying43 asz21 (q := .i64) (i := (i : Int)) (by omega) (by omega)
  have h2 := S.at (i := i) (t := 21) underlying21 rfl hi
  rw [Int.toNat_natCast] at h1
  rw [List.getD_eq_getElem?_getD, hx, Option.getD_some] at h2
  exact ⟨h1, h2⟩
theorem RdI.ln {h : Heap} {v : Value} {l : List Int} (S : RdI prog h .i32 v l) {n : Int} (hn : (l.length : Int) = n) : abuiltin prog .len #[43] #[v] = some (.int .i64 n) := by
  rw [← hn]; exact S.len underlying43
theorem take_snoc {α : Type} {l : List α} {i : Nat} {x : α} (h : l[i]? = some x) : l.take (i + 1) = l.take i ++ [x] := by
  rw [List.take_add_one, h]; rfl
/-- Cells in a row, as they are read. -/
def GR (h : Heap) (cv : Value) (l : List Cel) : Prop := ∃ ps : List PC, ps.map Prod.snd = l ∧ RS prog h 3 cC cv ps ∧ ∀ p, p ∈ ps → RdI prog h .i32 p.1 p.2.tx
theorem GR.keeps {h h' : Heap} {cv : Value} {l : List Cel} (G : GR h cv l) (K : Keeps h h') : GR h' cv l := by
  obtain ⟨ps, h1, h2, h3⟩ := G
  exact ⟨ps, h1, RS.keeps h2 K, fun p hp => (h3 p hp).keeps K⟩
theorem GR.len {h : Heap} {cv : Value} {l : List Cel} (G : GR h cv l) : abuiltin prog .len #[22] #[cv] = some (.int .i64 l.length) := by
  obtain ⟨ps, rfl, R, A⟩ := G
  rw [List.length_map]; exact R.len underlying22
theorem GR.one {h : Heap} {cv : Value} {l : List Cel} (G : GR h cv l) : one cv = true := by
  obtain ⟨ps, rfl, R, A⟩ := G
  exact Rd.one R
/-- A cell, as it is read. -/
theorem GR.at {h : Heap} {cv : Value} {l : List Cel} {i : Nat} {c : Cel} (G : GR h cv l) (hi : l[i]? = some c) : ∃ tv, RdI prog h .i32 tv c.tx ∧ aload prog h 45 (eltA cv 3 i) = some (.agg #[tv, .int .i64 c.ar, .bool c.wd]) ∧ aindexAddr prog 22 cv (.int .i64 (i : Int)) = some (.pointer (some (eltA cv 3 i))) ∧
    aload prog h 43 (eltA cv 3 i) = some tv ∧ aload prog h 3 ⟨(eltA cv 3 i).block, (eltA cv 3 i).off + 1, none⟩ = some (.int .i64 c.ar) ∧ aload prog h 4 ⟨(eltA cv 3 i).block, (eltA cv 3 i).off + 2, none⟩ = some (.bool c.wd) := by
  obtain ⟨ps, rfl, R, A⟩ := G
  rw [List.getElem?_map, Option.map_eq_some_iff] at hi
  obtain ⟨p, hp, rfl⟩ := hi
  have hlt := (List.getElem?_eq_some_iff.1 hp).1
  have I := Rd.index R underlying22 asz45 (q := .i64) (i := (i : Int)) (by omega) (by omega)
  rw [Int.toNat_natCast] at I
  have h0 := R.fld cC_len (t := 43) underlying43 rfl hp (j := 0) (by decide)
  have h1 := R.fld cC_len (t := 3) underlying3 rfl hp (j := 1) (by decide)
  have h2 := R.fld cC_len (t := 4) underlying4 rfl hp (j := 2) (by decide)
  exact ⟨p.1, A p (List.mem_of_getElem? hp), R.agg cC_len underlying45 rfl asz45 hp, I, h0, h1, h2⟩
theorem list_ne {α : Type} [DecidableEq α] {xs ys : List α} {i : Nat} {x y : α} (hx : xs[i]? = some x) (hy : ys[i]? = some y) (h : x ≠ y) : decide (xs = ys) = false := decide_eq_false fun e => by
  subst e; rw [hx] at hy; cases hy; exact h rfl
theorem equalR_ok {h : Heap} {a b : Value} {xs ys : List Int} (X : RdI prog h .i32 a xs) (Y : RdI prog h .i32 b ys) (hx : xs.length ≤ 1000000000000000) : ACalls prog 51 #[a, b] h (fun v h' => v = .bool (decide (xs = ys)) ∧ h' = h) := by
  refine acalls_of_W func51 rfl (by kernel_rfl) (by kernel_rfl) (by simp [ntmps51]) ?_
  have LX := X.ln (n := (xs.length : Int)) rfl
  have LY := Y.ln (n := (ys.length : Int)) rfl
  by_cases c1 : xs.length = ys.length
  case neg =>
    have d1 : decide (¬ (xs.length : Int) = (ys.length : Int)) = true := decide_eq_true (by omega)
    simp only [wk, wt, wl, ↓reduceIte, Nat.reduceEqDiff, Nat.reduceAdd, wz, LX, LY, d1]
    rw [decide_eq_false (fun e => c1 (by rw [e]))]; exact ⟨rfl, trivial⟩
  have d1 : decide (¬ (xs.length : Int) = (ys.length : Int)) = false := decide_eq_false (by omega)
  simp only [wk, wt, wl, ↓reduceIte, Nat.reduceEqDiff, Nat.reduceAdd, wz, LX, LY, d1]
  refine W_loop (fun tm hh => h = hh ∧ tm 0 = a ∧ tm 1 = b ∧ tm 12 = .int .i64 (xs.length : Int) ∧ ∃ i : Nat, tm 13 = .int .i64 (i : Int) ∧ i ≤ xs.length ∧ xs.take i = ys.take i) (fun tm _ => (xs.length - intOf (tm 13)).toNat) ⟨rfl, (by first | rfl | (simp only [wk, wt, wl, ↓reduceIte, Nat.reduceEqDiff, Nat.reduceAdd, wz]; done) | (simp only [wk, wt, wl, ↓reduceIte, Nat.reduceEqDiff, Nat.reduceAdd, wz]; rfl)), (by first | rfl | (simp only [wk, wt, wl, ↓reduceIte, Nat.reduceEqDiff, Nat.reduceAdd, wz]; done) | (simp only [wk, wt, wl, ↓reduceIte, Nat.reduceEqDiff, Nat.reduceAdd, wz]; rfl)), (by first | rfl | (simp only [wk, wt, wl, ↓reduceIte, Nat.reduceEqDiff, Nat.reduceAdd, wz]; done) | (simp only [wk, wt, wl, ↓reduceIte, Nat.reduceEqDiff, Nat.reduceAdd, wz]; rfl)), 0, (by first | rfl | (simp only [wk, wt, wl, ↓reduceIte, Nat.reduceEqDiff, Nat.reduceAdd, wz]; done) | (simp only [wk, wt, wl, ↓reduceIte, Nat.reduceEqDiff, Nat.reduceAdd, wz]; rfl)), by omega, rfl⟩ ?_
  rintro tm _ ⟨rfl, t0, t1, t12, i, t13, hi, he⟩
  simp only [wk, wt, wl, ↓reduceIte, Nat.reduceEqDiff, Nat.reduceAdd, wz, t0, t1, t12, t13]
  refine condK_dec (fun hd => ?_) (fun hd => ?_)
  · obtain ⟨x, hxi⟩ : ∃ x, xs[i]? = some x := ⟨_, List.getElem?_eq_getElem (by omega)⟩
    obtain ⟨y, hyi⟩ : ∃ y, ys[i]? = some y := ⟨_, List.getElem?_eq_getElem (by omega)⟩
    have wi : IntKind.i64.wrap ((i : Int) + 1) = ((i + 1 : Nat) : Int) := by rw [IntWalk.i64_in _ (by omega)]; omega
    by_cases c2 : x = y
    · have d2 : decide (¬ x = y) = false := by simp [c2]
      simp only [wk, wt, wl, ↓reduceIte, Nat.reduceEqDiff, Nat.reduceAdd, wz, t0, t1, t12, t13]
      refine adraw_order [(0, false), (1, false), (2, false), (3, false), (4, false), (5, false), (6, false), (7, false), (8, false)] mixed (by kernel_rfl) (by kernel_rfl) (by kernel_rfl) (by with_reducible repeat (first | exact PF_retK | refine PF_thenK ?_ | refine PF_blockK ?_)) ?_
      simp only [wk, wt, wl, ↓reduceIte, Nat.reduceEqDiff, Nat.reduceAdd, wz, t0, t1, t12, t13, (X.ix hxi).1, (X.ix hxi).2, (Y.ix hyi).1, (Y.ix hyi).2, d2, wi, intOf_int]
      exact ⟨⟨i + 1, rfl, by omega, by rw [take_snoc hxi, take_snoc hyi, he, c2]⟩, by omega⟩
    · have d2 : decide (¬ x = y) = true := by simp [c2]
      simp only [wk, wt, wl, ↓reduceIte, Nat.reduceEqDiff, Nat.reduceAdd, wz, t0, t1, t12, t13]
      refine adraw_order [(0, false), (1, false), (2, false), (3, false), (4, false), (5, false), (6, false), (7, false), (8, false)] mixed (by kernel_rfl) (by kernel_rfl) (by kernel_rfl) (by with_reducible repeat (first | exact PF_retK | refine PF_thenK ?_ | refine PF_blockK ?_)) ?_
      simp only [wk, wt, wl, ↓reduceIte, Nat.reduceEqDiff, Nat.reduceAdd, wz, t0, t1, t12, t13, (X.ix hxi).1, (X.ix hxi).2, (Y.ix hyi).1, (Y.ix hyi).2, d2]
      rw [list_ne hxi hyi c2]; exact ⟨rfl, trivial⟩
  · have hi2 : i = xs.length := by omega
    rw [hi2, List.take_length, c1, List.take_length] at he
    simp only [wk, wt, wl, ↓reduceIte, Nat.reduceEqDiff, Nat.reduceAdd, wz]
    rw [decide_eq_true he]; exact ⟨rfl, trivial⟩
theorem cel_dec (c d : Cel) : decide (c = d) = (decide (c.ar = d.ar) && decide (c.wd = d.wd) && decide (c.tx = d.tx)) := by
  obtain ⟨t1, a1, w1⟩ := c
  obtain ⟨t2, a2, w2⟩ := d
  by_cases h1 : a1 = a2 <;> by_cases h2 : w1 = w2 <;> by_cases h3 : t1 = t2 <;> simp [h1, h2, h3]
theorem eqB {x y : Bool} : abin prog .eql 4 (.bool x) (.bool y) = some (.bool (decide (x = y))) := by
  cases x <;> cases y <;> simp [abin, aeq, underlying4]
theorem cell_load {h : Heap} {b : Nat} {tv : Value} {c : Cel} (V : Var h b [tv, .int .i64 c.ar, .bool c.wd]) : aload prog h 43 ⟨b, 0, none⟩ = some tv ∧ aload prog h 3 ⟨b, 1, none⟩ = some (.int .i64 c.ar) ∧ aload prog h 4 ⟨b, 2, none⟩ = some (.bool c.wd) ∧ aload prog h 45 ⟨b, 0, none⟩ = some (.agg #[tv, .int .i64 c.ar, .bool c.wd]) :=
  ⟨V.load1 (P := prog) (t := 43) underlying43 rfl (i := 0), V.load1 (P := prog) (t := 3) underlying3 rfl (i := 1), V.load1 (P := prog) (t := 4) underlying4 rfl (i := 2), V.loadA (P := prog) (t := 45) underlying45 rfl asz45⟩
theorem cellEq_ok {h : Heap} {a b : Value} {c d : Cel} (X : RdI prog h .i32 a c.tx) (Y : RdI prog h .i32 b d.tx) (hx : c.tx.length ≤ 1000000000000000) : ACalls prog 50 #[.agg #[a, .int .i64 c.ar, .bool c.wd], .agg #[b, .int .i64 d.ar, .bool d.wd]] h (fun v h' => v = .bool (decide (c = d)) ∧ Keeps h h') := by
  refine acalls_of_W' func50 rfl (by kernel_rfl) (by kernel_rfl) (by simp [ntmps50]) ?_
  intro H
  have o1 := Rd.one X
  have o2 := Rd.one Y
  have N1 := Keeps.new H 45 [a, .int .i64 c.ar, .bool c.wd]
  have V1 := Var.new (e := 45) H (cs := [a, .int .i64 c.ar, .bool c.wd])
  have hz1 : (h.new 45 [a, .int .i64 c.ar, .bool c.wd]).size = h.size + 1 := rfl
  have N2 := Keeps.new (Ch.wf N1) 45 [b, .int .i64 d.ar, .bool d.wd]
  have V2 := Var.new (e := 45) (Ch.wf N1) (cs := [b, .int .i64 d.ar, .bool d.wd])
  rw [hz1] at V2
  have V12 := Keeps.var (Ch.wf N1) N2 V1
  have K2 := N1.trans N2
  obtain ⟨p0, p1, p2, _⟩ := cell_load V12
  obtain ⟨q0, q1, q2, _⟩ := cell_load V2
  rw [cel_dec]
  by_cases c1 : c.ar = d.ar
  case neg =>
    have e1 := decide_eq_false c1
    rw [e1]
    simp only [wk, wt, wl, ↓reduceIte, Nat.reduceEqDiff, Nat.reduceAdd, wz, pt, aeff_box, boxV_cell o1, boxV_cell o2, hz1, newSz, p1, q1, e1]
    exact ⟨rfl, K2⟩
  have e1 := decide_eq_true c1
  by_cases c2 : c.wd = d.wd
  case neg =>
    have e2 := decide_eq_false c2
    rw [e1, e2]
    simp only [wk, wt, wl, ↓reduceIte, Nat.reduceEqDiff, Nat.reduceAdd, wz, pt, aeff_box, boxV_cell o1, boxV_cell o2, hz1, newSz, p1, q1, e1, p2, q2, eqB, e2]
    exact ⟨rfl, K2⟩
  have e2 := decide_eq_true c2
  rw [e1, e2]
  simp only [wk, wt, wl, ↓reduceIte, Nat.reduceEqDiff, Nat.reduceAdd, wz, pt, aeff_box, boxV_cell o1, boxV_cell o2, hz1, newSz, p1, q1, e1, p2, q2, eqB, e2, p0, q0]
  refine (equalR_ok (X.keeps K2) (Y.keeps K2) hx).use ?_
  rintro _ _ ⟨rfl, hh⟩
  obtain rfl := hh.symm
  simp only [wk, wt, wl, ↓reduceIte, Nat.reduceEqDiff, Nat.reduceAdd, wz]
  exact ⟨rfl, K2⟩
theorem refCell_ok {h : Heap} {a b : Value} {c d : Cel} (X : RdI prog h .i32 a c.tx) (Y : RdI prog h .i32 b d.tx) (hx : c.tx.length ≤ 1000000000000000) : ACalls prog 38 #[.agg #[a, .int .i64 c.ar, .bool c.wd], .agg #[b, .int .i64 d.ar, .bool d.wd]] h (fun v h' => v = .bool (decide (c = d)) ∧ Keeps h h') := by
  refine acalls_of_W' func38 rfl (by kernel_rfl) (by kernel_rfl) (by simp [ntmps38]) ?_
  intro H
  have o1 := Rd.one X
  have o2 := Rd.one Y
  have N1 := Keeps.new H 45 [a, .int .i64 c.ar, .bool c.wd]
  have V1 := Var.new (e := 45) H (cs := [a, .int .i64 c.ar, .bool c.wd])
  have hz1 : (h.new 45 [a, .int .i64 c.ar, .bool c.wd]).size = h.size + 1 := rfl
  have N2 := Keeps.new (Ch.wf N1) 45 [b, .int .i64 d.ar, .bool d.wd]
  have V2 := Var.new (e := 45) (Ch.wf N1) (cs := [b, .int .i64 d.ar, .bool d.wd])
  rw [hz1] at V2
  have V12 := Keeps.var (Ch.wf N1) N2 V1
  have K2 := N1.trans N2
  obtain ⟨p0, p1, p2, _⟩ := cell_load V12
  obtain ⟨q0, q1, q2, _⟩ := cell_load V2
  rw [cel_dec]
  by_cases c1 : c.ar = d.ar
  case neg =>
    have e1 := decide_eq_false c1
    rw [e1]
    simp only [wk, wt, wl, ↓reduceIte, Nat.reduceEqDiff, Nat.reduceAdd, wz, pt, aeff_box, boxV_cell o1, boxV_cell o2, hz1, newSz, p1, q1, e1]
    exact ⟨rfl, K2⟩
  have e1 := decide_eq_true c1
  by_cases c2 : c.wd = d.wd
  case neg =>
    have e2 := decide_eq_false c2
    rw [e1, e2]
    simp only [wk, wt, wl, ↓reduceIte, Nat.reduceEqDiff, Nat.reduceAdd, wz, pt, aeff_box, boxV_cell o1, boxV_cell o2, hz1, newSz, p1, q1, e1, p2, q2, eqB, e2]
    exact ⟨rfl, K2⟩
  have e2 := decide_eq_true c2
  rw [e1, e2]
  simp only [wk, wt, wl, ↓reduceIte, Nat.reduceEqDiff, Nat.reduceAdd, wz, pt, aeff_box, boxV_cell o1, boxV_cell o2, hz1, newSz, p1, q1, e1, p2, q2, eqB, e2, p0, q0]
  refine (runes_ok (X.keeps K2) (Y.keeps K2) (by omega)).use ?_
  rintro _ _ ⟨rfl, hh⟩
  obtain rfl := hh.symm
  simp only [wk, wt, wl, ↓reduceIte, Nat.reduceEqDiff, Nat.reduceAdd, wz]
  exact ⟨rfl, K2⟩
theorem cell_var {h : Heap} (H : Wf h) {tv : Value} {c : Cel} (o : one tv = true) : ∃ h', storeV prog (h.new 45 [.slice none 0 0, .int .i64 0, .bool false]) 45 (.pointer (some ⟨h.size, 0, none⟩)) (.agg #[tv, .int .i64 c.ar, .bool c.wd]) = some (undef, h') ∧ Var h' h.size [tv, .int .i64 c.ar, .bool c.wd] ∧ Keeps h h' ∧ h'.size = h.size + 1 := by
  have N := Keeps.new H 45 [.slice none 0 0, .int .i64 0, .bool false]
  obtain ⟨h', e, V, C, z⟩ := (Var.new (e := 45) H (cs := [.slice none 0 0, .int .i64 0, .bool false])).store (P := prog) (t := 45) (v := .agg #[tv, .int .i64 c.ar, .bool c.wd]) (i := 0) (Ch.wf N) asz45 (by simp [Value.cells]) (by simp [Value.cells, o, one_int, one_bool])
  refine ⟨h', e, ?_, N.step C fun b e => by omega, z⟩
  have : over [.slice none 0 0, .int .i64 0, .bool false] 0 (Value.agg #[tv, .int .i64 c.ar, .bool c.wd]).cells.toList = [tv, .int .i64 c.ar, .bool c.wd] := by
    rw [over_all (by simp [Value.cells])]; simp [Value.cells]
  rw [this] at V; exact V
def TxB (l : List Cel) : Prop := ∀ c, c ∈ l → c.tx.length ≤ 1000000000000000
theorem equalF_ok {h : Heap} {va vb : Value} {la lb : List Cel} (A : GR h va la) (B : GR h vb lb) (hl : la.length ≤ 1000000000) (hT : TxB la) :
    ACalls prog 49 #[va, vb, .func (.func 50) #[] #[]] h (fun v h' => v = .bool (decide (la = lb)) ∧ Keeps h h') := by
  refine acalls_of_W' func49 rfl (by kernel_rfl) (by kernel_rfl) (by simp [ntmps49]) ?_
  intro H
  have LA := A.len
  have LB := B.len
  by_cases c1 : la.length = lb.length
  case neg =>
    have d1 : decide (¬ (la.length : Int) = (lb.length : Int)) = true := decide_eq_true (by omega)
    simp only [wk, wt, wl, ↓reduceIte, Nat.reduceEqDiff, Nat.reduceAdd, wz, LA, LB, d1]
    rw [decide_eq_false (fun e => c1 (by rw [e]))]; exact ⟨rfl, Keeps.refl H⟩
  have d1 : decide (¬ (la.length : Int) = (lb.length : Int)) = false := decide_eq_false (by omega)
  simp only [wk, wt, wl, ↓reduceIte, Nat.reduceEqDiff, Nat.reduceAdd, wz, LA, LB, d1]
  refine W_loop (fun tm hh => Keeps h hh ∧ tm 1 = vb ∧ tm 2 = .func (.func 50) #[] #[] ∧ tm 15 = va ∧ tm 16 = .int .i64 (la.length : Int) ∧ ∃ i : Nat, tm 17 = .int .i64 (i : Int) ∧ i ≤ la.length ∧ la.take i = lb.take i) (fun tm _ => (la.length - intOf (tm 17)).toNat) ⟨Keeps.refl H, (by first | rfl | (simp only [wk, wt, wl, ↓reduceIte, Nat.reduceEqDiff, Nat.reduceAdd, wz]; done) | (simp only [wk, wt, wl, ↓reduceIte, Nat.reduceEqDiff, Nat.reduceAdd, wz]; rfl)), (by first | rfl | (simp only [wk, wt, wl, ↓reduceIte, Nat.reduceEqDiff, Nat.reduceAdd, wz]; done) | (simp only [wk, wt, wl, ↓reduceIte, Nat.reduceEqDiff, Nat.reduceAdd, wz]; rfl)), (by first | rfl | (simp only [wk, wt, wl, ↓reduceIte, Nat.reduceEqDiff, Nat.reduceAdd, wz]; done) | (simp only [wk, wt, wl, ↓reduceIte, Nat.reduceEqDiff, Nat.reduceAdd, wz]; rfl)), (by first | rfl | (simp only [wk, wt, wl, ↓reduceIte, Nat.reduceEqDiff, Nat.reduceAdd, wz]; done) | (simp only [wk, wt, wl, ↓reduceIte, Nat.reduceEqDiff, Nat.reduceAdd, wz]; rfl)), 0, (by first | rfl | (simp only [wk, wt, wl, ↓reduceIte, Nat.reduceEqDiff, Nat.reduceAdd, wz]; done) | (simp only [wk, wt, wl, ↓reduceIte, Nat.reduceEqDiff, Nat.reduceAdd, wz]; rfl)), by omega, rfl⟩ ?_
  rintro tm hh ⟨K, t1, t2, t15, t16, i, t17, hi, he⟩
  simp only [wk, wt, wl, ↓reduceIte, Nat.reduceEqDiff, Nat.reduceAdd, wz, t1, t2, t15, t16, t17]
  refine condK_dec (fun hd => ?_) (fun hd => ?_)
  · obtain ⟨x, hxi⟩ : ∃ x, la[i]? = some x := ⟨_, List.getElem?_eq_getElem (by omega)⟩
    obtain ⟨y, hyi⟩ : ∃ y, lb[i]? = some y := ⟨_, List.getElem?_eq_getElem (by omega)⟩
    have wi : IntKind.i64.wrap ((i : Int) + 1) = ((i + 1 : Nat) : Int) := by rw [IntWalk.i64_in _ (by omega)]; omega
    obtain ⟨tx, X, LX, IX, _⟩ := (A.keeps K).at hxi
    obtain ⟨ty, Y, _⟩ := (B.keeps K).at hyi
    obtain ⟨h3, e3, V3, K3, z3⟩ := cell_var (Ch.wf K) (c := x) (Rd.one X)
    obtain ⟨ty, Y, LY, IY, _⟩ := ((B.keeps K).keeps K3).at hyi
    obtain ⟨h4, e4, V4, K4, z4⟩ := cell_var (Ch.wf K3) (c := y) (Rd.one Y)
    have V34 := Keeps.var (Ch.wf K3) K4 V3
    obtain ⟨_, _, _, p⟩ := cell_load V34
    obtain ⟨_, _, _, q⟩ := cell_load V4
    rw [z3] at e4 q
    have K04 := (K.trans K3).trans K4
    simp only [wk, wt, wl, ↓reduceIte, Nat.reduceEqDiff, Nat.reduceAdd, wz, t1, t2, t15, t16, t17, newSz, z3, IX, LX, e3, IY, LY, e4, p, q, callV_func, body50]
    refine (cellEq_ok ((X.keeps K3).keeps K4) (Y.keeps K4) (hT x (List.mem_of_getElem? hxi))).use ?_
    rintro _ h5 ⟨rfl, K5⟩
    by_cases c2 : x = y
    · have d2 := decide_eq_true c2
      simp only [wk, wt, wl, ↓reduceIte, Nat.reduceEqDiff, Nat.reduceAdd, wz, t1, t2, t15, t16, t17, d2, wi, intOf_int]
      exact ⟨⟨K04.trans K5, i + 1, rfl, by omega, by rw [take_snoc hxi, take_snoc hyi, he, c2]⟩, by omega⟩
    · have d2 := decide_eq_false c2
      simp only [wk, wt, wl, ↓reduceIte, Nat.reduceEqDiff, Nat.reduceAdd, wz, t1, t2, t15, t16, t17, d2]
      rw [list_ne hxi hyi c2]; exact ⟨rfl, K04.trans K5⟩
  · have hi2 : i = la.length := by omega
    rw [hi2, List.take_length, c1, List.take_length] at he
    simp only [wk, wt, wl, ↓reduceIte, Nat.reduceEqDiff, Nat.reduceAdd, wz]
    rw [decide_eq_true he]; exact ⟨rfl, K⟩
/-- A grid in plain terms. -/
structure GM where
  R : Int
  C : Int
  l : List Cel
  y : Int
  x : Int
deriving DecidableEq
def mC (g : GM) (cv : Value) : List Value := [.int .i64 g.R, .int .i64 g.C, cv, .int .i64 g.y, .int .i64 g.x]
def mV (g : GM) (cv : Value) : Value := .agg (mC g cv).toArray
theorem boxV_mgrid {h : Heap} {g : GM} {v : Value} (o : one v = true) : boxV prog h 24 (mV g v) = some (.pointer (some ⟨h.size, 0, none⟩), h.new 24 (mC g v)) := by
  simp [boxV, asz24, Value.cells, mV, mC, one_cells o, o, one_int]
theorem grid_load {h : Heap} {b : Nat} {g : GM} {v : Value} (V : Var h b (mC g v)) : aload prog h 3 ⟨b, 0, none⟩ = some (.int .i64 g.R) ∧ aload prog h 3 ⟨b, 1, none⟩ = some (.int .i64 g.C) ∧ aload prog h 22 ⟨b, 2, none⟩ = some v ∧ aload prog h 3 ⟨b, 3, none⟩ = some (.int .i64 g.y) ∧ aload prog h 3 ⟨b, 4, none⟩ = some (.int .i64 g.x) ∧ aload prog h 24 ⟨b, 0, none⟩ = some (mV g v) :=
  ⟨V.load1 (i := 0) underlying3 rfl, V.load1 (i := 1) underlying3 rfl, V.load1 (i := 2) underlying22 rfl, V.load1 (i := 3) underlying3 rfl, V.load1 (i := 4) underlying3 rfl, V.loadA underlying24 rfl asz24⟩
theorem gm_dec (a b : GM) : decide (a = b) = (decide (a.R = b.R) && decide (a.C = b.C) && decide (a.y = b.y) && decide (a.x = b.x) && decide (a.l = b.l)) := by
  obtain ⟨r1, c1, l1, y1, x1⟩ := a
  obtain ⟨r2, c2, l2, y2, x2⟩ := b
  by_cases h1 : r1 = r2 <;> by_cases h2 : c1 = c2 <;> by_cases h3 : y1 = y2 <;> by_cases h4 : x1 = x2 <;> by_cases h5 : l1 = l2 <;> simp [h1, h2, h3, h4, h5]
theorem sameG_ok {h : Heap} {va vb : Value} {a b : GM} (A : GR h va a.l) (B : GR h vb b.l) (hl : a.l.length ≤ 1000000000) (hT : TxB a.l) :
    ACalls prog 25 #[mV a va, mV b vb] h (fun v h' => v = .bool (decide (a = b)) ∧ Keeps h h') := by
  refine acalls_of_W' func25 rfl (by kernel_rfl) (by kernel_rfl) (by simp [ntmps25]) ?_
  intro H
  have o1 := A.one
  have o2 := B.one
  have N1 := Keeps.new H 24 (mC a va)
  have V1 := Var.new (e := 24) H (cs := mC a va)
  have hz1 : (h.new 24 (mC a va)).size = h.size + 1 := rfl
  have N2 := Keeps.new (Ch.wf N1) 24 (mC b vb)
  have V2 := Var.new (e := 24) (Ch.wf N1) (cs := mC b vb)
  rw [hz1] at V2
  have V12 := Keeps.var (Ch.wf N1) N2 V1
  have K2 := N1.trans N2
  obtain ⟨p0, p1, p2, p3, p4, _⟩ := grid_load V12
  obtain ⟨q0, q1, q2, q3, q4, _⟩ := grid_load V2
  rw [gm_dec]
  by_cases c1 : a.R = b.R
  case neg =>
    have e1 := decide_eq_false c1
    rw [e1]
    simp only [wk, wt, wl, ↓reduceIte, Nat.reduceEqDiff, Nat.reduceAdd, wz, pt, aeff_box, boxV_mgrid o1, boxV_mgrid o2, hz1, newSz, p0, q0, e1]
    exact ⟨rfl, K2⟩
  have e1 := decide_eq_true c1
  by_cases c2 : a.C = b.C
  case neg =>
    have e2 := decide_eq_false c2
    rw [e1, e2]
    simp only [wk, wt, wl, ↓reduceIte, Nat.reduceEqDiff, Nat.reduceAdd, wz, pt, aeff_box, boxV_mgrid o1, boxV_mgrid o2, hz1, newSz, p0, q0, e1, p1, q1, e2]
    exact ⟨rfl, K2⟩
  have e2 := decide_eq_true c2
  by_cases c3 : a.y = b.y
  case neg =>
    have e3 := decide_eq_false c3
    rw [e1, e2, e3]
    simp only [wk, wt, wl, ↓reduceIte, Nat.reduceEqDiff, Nat.reduceAdd, wz, pt, aeff_box, boxV_mgrid o1, boxV_mgrid o2, hz1, newSz, p0, q0, e1, p1, q1, e2, p3, q3, e3]
    exact ⟨rfl, K2⟩
  have e3 := decide_eq_true c3
  by_cases c4 : a.x = b.x
  case neg =>
    have e4 := decide_eq_false c4
    rw [e1, e2, e3, e4]
    simp only [wk, wt, wl, ↓reduceIte, Nat.reduceEqDiff, Nat.reduceAdd, wz, pt, aeff_box, boxV_mgrid o1, boxV_mgrid o2, hz1, newSz, p0, q0, e1, p1, q1, e2, p3, q3, e3, p4, q4, e4]
    exact ⟨rfl, K2⟩
  have e4 := decide_eq_true c4
  rw [e1, e2, e3, e4]
  simp only [wk, wt, wl, ↓reduceIte, Nat.reduceEqDiff, Nat.reduceAdd, wz, pt, aeff_box, boxV_mgrid o1, boxV_mgrid o2, hz1, newSz, p0, q0, e1, p1, q1, e2, p3, q3, e3, p4, q4, e4, p2, q2]
  refine (equalF_ok (A.keeps K2) (B.keeps K2) hl hT).use ?_
  rintro _ h3 ⟨rfl, K3⟩
  simp only [wk, wt, wl, ↓reduceIte, Nat.reduceEqDiff, Nat.reduceAdd, wz]
  exact ⟨rfl, K2.trans K3⟩
theorem refSame_ok {h : Heap} {va vb : Value} {a b : GM} (A : GR h va a.l) (B : GR h vb b.l) (hl : a.l.length ≤ 1000000000) (hT : TxB a.l) :
    ACalls prog 14 #[mV a va, mV b vb] h (fun v h' => v = .bool (decide (a = b)) ∧ Keeps h h') := by
  refine acalls_of_W' func14 rfl (by kernel_rfl) (by kernel_rfl) (by simp [ntmps14]) ?_
  intro H
  have o1 := A.one
  have o2 := B.one
  have N1 := Keeps.new H 24 (mC a va)
  have V1 := Var.new (e := 24) H (cs := mC a va)
  have hz1 : (h.new 24 (mC a va)).size = h.size + 1 := rfl
  have N2 := Keeps.new (Ch.wf N1) 24 (mC b vb)
  have V2 := Var.new (e := 24) (Ch.wf N1) (cs := mC b vb)
  rw [hz1] at V2
  have V12 := Keeps.var (Ch.wf N1) N2 V1
  have K2 := N1.trans N2
  obtain ⟨p0, p1, p2, p3, p4, _⟩ := grid_load V12
  obtain ⟨q0, q1, q2, q3, q4, _⟩ := grid_load V2
  rw [gm_dec]
  have nd : ∀ {x y : Int}, x = y → decide (¬ x = y) = false := fun e => by simp [e]
  have ny : ∀ {x y : Int}, ¬ x = y → decide (¬ x = y) = true := fun e => by simp [e]
  by_cases c1 : a.R = b.R
  case neg =>
    rw [decide_eq_false c1]
    simp only [wk, wt, wl, ↓reduceIte, Nat.reduceEqDiff, Nat.reduceAdd, wz, pt, aeff_box, boxV_mgrid o1, boxV_mgrid o2, hz1, newSz, p0, q0, ny c1]
    exact ⟨rfl, K2⟩
  by_cases c2 : a.C = b.C
  case neg =>
    rw [decide_eq_false c2, decide_eq_true c1]
    simp only [wk, wt, wl, ↓reduceIte, Nat.reduceEqDiff, Nat.reduceAdd, wz, pt, aeff_box, boxV_mgrid o1, boxV_mgrid o2, hz1, newSz, p0, q0, nd c1, p1, q1, ny c2]
    exact ⟨rfl, K2⟩
  by_cases c3 : a.y = b.y
  case neg =>
    rw [decide_eq_false c3, decide_eq_true c1, decide_eq_true c2]
    simp only [wk, wt, wl, ↓reduceIte, Nat.reduceEqDiff, Nat.reduceAdd, wz, pt, aeff_box, boxV_mgrid o1, boxV_mgrid o2, hz1, newSz, p0, q0, nd c1, p1, q1, nd c2, p3, q3, ny c3]
    exact ⟨rfl, K2⟩
  by_cases c4 : a.x = b.x
  case neg =>
    rw [decide_eq_false c4, decide_eq_true c1, decide_eq_true c2, decide_eq_true c3]
    simp only [wk, wt, wl, ↓reduceIte, Nat.reduceEqDiff, Nat.reduceAdd, wz, pt, aeff_box, boxV_mgrid o1, boxV_mgrid o2, hz1, newSz, p0, q0, nd c1, p1, q1, nd c2, p3, q3, nd c3, p4, q4, ny c4]
    exact ⟨rfl, K2⟩
  rw [decide_eq_true c1, decide_eq_true c2, decide_eq_true c3, decide_eq_true c4]
  have LA := (A.keeps K2).len
  have LB := (B.keeps K2).len
  by_cases c5 : a.l.length = b.l.length
  case neg =>
    have d1 : decide (¬ (a.l.length : Int) = (b.l.length : Int)) = true := decide_eq_true (by omega)
    rw [decide_eq_false (fun e : a.l = b.l => c5 (by rw [e]))]
    simp only [wk, wt, wl, ↓reduceIte, Nat.reduceEqDiff, Nat.reduceAdd, wz, pt, aeff_box, boxV_mgrid o1, boxV_mgrid o2, hz1, newSz, p0, q0, nd c1, p1, q1, nd c2, p3, q3, nd c3, p4, q4, nd c4, p2, q2, LA, LB, d1]
    exact ⟨rfl, K2⟩
  have d1 : decide (¬ (a.l.length : Int) = (b.l.length : Int)) = false := decide_eq_false (by omega)
  simp only [wk, wt, wl, ↓reduceIte, Nat.reduceEqDiff, Nat.reduceAdd, wz, pt, aeff_box, boxV_mgrid o1, boxV_mgrid o2, hz1, newSz, p0, q0, nd c1, p1, q1, nd c2, p3, q3, nd c3, p4, q4, nd c4, p2, q2, LA, LB, d1]
  refine W_loop (fun tm hh => Keeps h hh ∧ tm 2 = pt h.size ∧ tm 3 = pt (h.size + 1) ∧ Var hh h.size (mC a va) ∧ Var hh (h.size + 1) (mC b vb) ∧ ∃ i : Nat, tm 5 = .int .i64 (i : Int) ∧ i ≤ a.l.length ∧ a.l.take i = b.l.take i) (fun tm _ => (a.l.length - intOf (tm 5)).toNat) ⟨K2, (by first | rfl | (simp only [wk, wt, wl, ↓reduceIte, Nat.reduceEqDiff, Nat.reduceAdd, wz]; done) | (simp only [wk, wt, wl, ↓reduceIte, Nat.reduceEqDiff, Nat.reduceAdd, wz]; rfl) | (simp only [wk, wt, wl, ↓reduceIte, Nat.reduceEqDiff, Nat.reduceAdd, wz, pt]; done) | (simp only [wk, wt, wl, ↓reduceIte, Nat.reduceEqDiff, Nat.reduceAdd, wz, pt]; rfl)), (by first | rfl | (simp only [wk, wt, wl, ↓reduceIte, Nat.reduceEqDiff, Nat.reduceAdd, wz]; done) | (simp only [wk, wt, wl, ↓reduceIte, Nat.reduceEqDiff, Nat.reduceAdd, wz]; rfl) | (simp only [wk, wt, wl, ↓reduceIte, Nat.reduceEqDiff, Nat.reduceAdd, wz, pt]; done) | (simp only [wk, wt, wl, ↓reduceIte, Nat.reduceEqDiff, Nat.reduceAdd, wz, pt]; rfl)), V12, V2, 0, (by first | rfl | (simp only [wk, wt, wl, ↓reduceIte, Nat.reduceEqDiff, Nat.reduceAdd, wz]; done) | (simp only [wk, wt, wl, ↓reduceIte, Nat.reduceEqDiff, Nat.reduceAdd, wz]; rfl)), by omega, rfl⟩ ?_
  rintro tm hh ⟨K, t2, t3, W1, W2, i, t5, hi, he⟩
  obtain ⟨_, _, r2, _⟩ := grid_load W1
  obtain ⟨_, _, s2, _⟩ := grid_load W2
  simp only [wk, wt, wl, ↓reduceIte, Nat.reduceEqDiff, Nat.reduceAdd, wz, t2, t3, t5, pt, r2, (A.keeps K).len]
  refine condK_dec (fun hd => ?_) (fun hd => ?_)
  · obtain ⟨x, hxi⟩ : ∃ x, a.l[i]? = some x := ⟨_, List.getElem?_eq_getElem (by omega)⟩
    obtain ⟨y, hyi⟩ : ∃ y, b.l[i]? = some y := ⟨_, List.getElem?_eq_getElem (by omega)⟩
    have wi : IntKind.i64.wrap ((i : Int) + 1) = ((i + 1 : Nat) : Int) := by rw [IntWalk.i64_in _ (by omega)]; omega
    obtain ⟨tx, X, LX, IX, _⟩ := (A.keeps K).at hxi
    obtain ⟨ty, Y, LY, IY, _⟩ := (B.keeps K).at hyi
    simp only [wk, wt, wl, ↓reduceIte, Nat.reduceEqDiff, Nat.reduceAdd, wz, t2, t3, t5, pt]
    refine adraw_order [(0, false), (1, false), (2, false), (3, false), (4, false), (5, false), (6, false), (7, false), (8, false), (9, false), (10, true), (11, false)] mixed (by kernel_rfl) (by kernel_rfl) (by kernel_rfl) (by with_reducible repeat (first | exact PF_retK | refine PF_thenK ?_ | refine PF_blockK ?_)) ?_
    simp only [wk, wt, wl, ↓reduceIte, Nat.reduceEqDiff, Nat.reduceAdd, wz, dK_t, t2, t3, t5, pt, r2, s2, IX, LX, IY, LY]
    refine (refCell_ok X Y (hT x (List.mem_of_getElem? hxi))).use ?_
    rintro _ h5 ⟨rfl, K5⟩
    by_cases c6 : x = y
    · have d2 := decide_eq_true c6
      simp only [wk, wt, wl, ↓reduceIte, Nat.reduceEqDiff, Nat.reduceAdd, wz, dK_t, t2, t3, t5, pt, d2, wi, intOf_int]
      refine ⟨K5.reads (Ch.wf K), ?_⟩
      exact ⟨⟨K.trans K5, Keeps.var (Ch.wf K) K5 W1, Keeps.var (Ch.wf K) K5 W2, i + 1, rfl, by omega, by rw [take_snoc hxi, take_snoc hyi, he, c6]⟩, by omega⟩
    · have d2 := decide_eq_false c6
      simp only [wk, wt, wl, ↓reduceIte, Nat.reduceEqDiff, Nat.reduceAdd, wz, dK_t, t2, t3, t5, pt, d2]
      refine ⟨K5.reads (Ch.wf K), ?_⟩
      rw [list_ne hxi hyi c6]; exact ⟨rfl, K.trans K5⟩
  · have hi2 : i = a.l.length := by omega
    rw [hi2, List.take_length, c5, List.take_length] at he
    simp only [wk, wt, wl, ↓reduceIte, Nat.reduceEqDiff, Nat.reduceAdd, wz]
    rw [decide_eq_true he]; exact ⟨rfl, K⟩
end Go.Proofs.YthmpaddhmgnkbaaDoor.Am
end
