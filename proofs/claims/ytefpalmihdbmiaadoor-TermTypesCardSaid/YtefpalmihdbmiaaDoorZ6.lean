/- The texts of this seat, one behind another (part 6 of 10): the frame (an abstract machine), the contracts of functions, the laws. -/
import Derived.Test.YtefpalmihdbmiaaDoorZ5
import Derived.Test.YtefpalmihdbmiaaDoorAmKind5
import Derived.Test.YtefpalmihdbmiaaDoorAmRecs
section
/- A terminal's memory: cells in a row, texts of their own. -/
set_option linter.unusedSimpArgs false
set_option linter.unusedVariables false
set_option maxHeartbeats 4000000
set_option maxRecDepth 20000
namespace Go.Proofs.YtefpalmihdbmiaaDoor.Am
open Go Go.RowKit Go.Proofs.Tryd
def pt (b : Nat) : Value := .pointer (some ⟨b, 0, none⟩)
abbrev PC := Value × Cel
def cC (p : PC) : List Value := [p.1, .int .i64 p.2.ar, .bool p.2.wd]
theorem cC_len : ∀ p, (cC p).length = 3 := fun _ => rfl
/-- Not of the memory that is written. -/
def Off (Fs Ms : Nat → Prop) (n : Nat) : Prop := Fs n ∧ ¬ Ms n
/-- A grid's cells: their row (of the families Ms), their texts (of others). -/
structure GP (h : Heap) (Fs Ms : Nat → Prop) (cv : Value) (l : List Cel) (ps : List PC) : Prop where
  eq : ps.map Prod.snd = l
  own : OwnR prog h 3 cv ps.length (ps.flatMap cC)
  rd : ∀ p, p ∈ ps → RdI prog h .i32 p.1 p.2.tx
  off : ∀ p, p ∈ ps → Fam h (Off Fs Ms) p.1
section
variable {h h' : Heap} {Fs Ms D : Nat → Prop} {cv tv : Value} {l : List Cel} {ps : List PC} {i : Nat} {c : Cel} {p : PC}
theorem GP.length (G : GP h Fs Ms cv l ps) : ps.length = l.length := by rw [← G.eq, List.length_map]
theorem GP.len (G : GP h Fs Ms cv l ps) : abuiltin prog .len #[36] #[cv] = some (.int .i64 l.length) := by
  rw [← G.length]; exact G.own.1.len underlying36
theorem GP.at (G : GP h Fs Ms cv l ps) (hi : i < l.length) : ∃ p, ps[i]? = some p ∧ l[i]? = some p.2 ∧ p ∈ ps := by
  have hi' : i < ps.length := by rw [G.length]; exact hi
  refine ⟨ps[i], List.getElem?_eq_getElem hi', ?_, List.getElem_mem hi'⟩
  rw [← G.eq, List.getElem?_map, List.getElem?_eq_getElem hi']; rfl
theorem GP.index (G : GP h Fs Ms cv l ps) {z : Int} (h0 : 0 ≤ z) (h1 : z < l.length) : aindexAddr prog 36 cv (.int .i64 z) = some (.pointer (some (eltA cv 3 z.toNat))) :=
  Rd.index G.own.1 underlying36 asz50 h0 (by rw [G.length]; exact h1)
theorem GP.rs (G : GP h Fs Ms cv l ps) : RS prog h 3 cC cv ps := G.own.1
theorem GP.loads (G : GP h Fs Ms cv l ps) (hp : ps[i]? = some p) :
    aload prog h 44 ⟨(eltA cv 3 i).block, (eltA cv 3 i).off + 0, none⟩ = some p.1 ∧ aload prog h 3 ⟨(eltA cv 3 i).block, (eltA cv 3 i).off + 1, none⟩ = some (.int .i64 p.2.ar) ∧
    aload prog h 4 ⟨(eltA cv 3 i).block, (eltA cv 3 i).off + 2, none⟩ = some (.bool p.2.wd) ∧ aload prog h 50 (eltA cv 3 i) = some (.agg #[p.1, .int .i64 p.2.ar, .bool p.2.wd]) ∧ aload prog h 44 (eltA cv 3 i) = some p.1 := by
  have R := G.rs
  have h0 := R.fld cC_len (t := 44) underlying44 rfl hp (j := 0) (by decide)
  exact ⟨h0, R.fld cC_len underlying3 rfl hp (by decide), R.fld cC_len underlying4 rfl hp (by decide), R.agg cC_len underlying50 rfl asz50 hp, by rw [eltA_eta] at h0; exact h0⟩
/-- Behind what changes none of its row. -/
theorem GP.ch (G : GP h Fs Ms cv l ps) (C : Ch D h h') (hD : ∀ y, D y → Rg Ms h y) (hcv : ∀ y, blkOf cv = some y → ¬ D y) : GP h' Fs Ms cv l ps :=
  ⟨G.eq, Ch.ownR C G.own hcv, fun p hp => Ch.rd C (G.rd p hp) fun y hy d => (G.off p hp).apart (Gs := Ms) (fun n a b => a.2 b) y hy (hD y d), fun p hp => (G.off p hp).ch C fun z hz => ((G.rd p hp).blk_lt hz).1⟩
theorem GP.keeps (G : GP h Fs Ms cv l ps) (K : Keeps h h') : GP h' Fs Ms cv l ps := G.ch K (fun y e => e.elim) fun y _ e => e
theorem GP.lt (G : GP h Fs Ms cv l ps) : ∀ y, blkOf cv = some y → y < h.size := fun y hy => (G.own.1.blk_lt hy).1
theorem GP.set (H : Wf h) (G : GP h Fs Ms cv l ps) (hM : Fam h Ms cv) (hi : i < l.length) (ht : RdI prog h .i32 tv c.tx) (ho : Fam h (Off Fs Ms) tv) :
    ∃ h', storeV prog h 50 (.pointer (some (eltA cv 3 i))) (.agg #[tv, .int .i64 c.ar, .bool c.wd]) = some (undef, h') ∧ GP h' Fs Ms cv (l.set i c) (ps.set i (tv, c)) ∧ Ch (FamV h cv) h h' ∧ h'.size = h.size := by
  have hi' : i < ps.length := by rw [G.length]; exact hi
  obtain ⟨h', e, O, C, z, _⟩ := G.own.storeA (P := prog) H (t := 50) (w := .agg #[tv, .int .i64 c.ar, .bool c.wd]) asz50 (by simp [Value.cells]) (by simp [Value.cells, ht.one, one_int, one_bool]) hi'
  have hcells : (Value.agg #[tv, .int .i64 c.ar, .bool c.wd]).cells.toList = cC (tv, c) := by simp [Value.cells, cC]
  have hls : ps.length = (ps.set i (tv, c)).length := List.length_set.symm
  rw [hcells, fm_over cC_len (x := (tv, c)) hi', hls] at O
  have ap : ∀ v xs, RdI prog h .i32 v xs → Fam h (Off Fs Ms) v → RdI prog h' .i32 v xs ∧ Fam h' (Off Fs Ms) v := fun v xs R F =>
    ⟨Ch.rd C R fun y hy d => F.apart (Gs := Ms) (fun n a b => a.2 b) y hy (FamV.rg hM d), F.ch C fun z hz => (R.blk_lt hz).1⟩
  have key : ∀ p, p ∈ ps.set i (tv, c) → RdI prog h' .i32 p.1 p.2.tx ∧ Fam h' (Off Fs Ms) p.1 := fun p hp => by
    rcases List.mem_or_eq_of_mem_set hp with hp | rfl
    · exact ap _ _ (G.rd p hp) (G.off p hp)
    · exact ap _ _ ht ho
  exact ⟨h', e, ⟨by rw [List.map_set, G.eq], O, fun p hp => (key p hp).1, fun p hp => (key p hp).2⟩, C, z⟩
end
end Go.Proofs.YtefpalmihdbmiaaDoor.Am
end
section
/- The program's terminal as it lies in memory, step by step; contracts of move, back, Attr, Shown, Waits, by walks. -/
set_option linter.unusedSimpArgs false
set_option linter.unusedVariables false
set_option maxHeartbeats 4000000
set_option maxRecDepth 20000
namespace Go.Proofs.YtefpalmihdbmiaaDoor.Am
open Go Go.RowKit Go.Proofs.Tryd
theorem abuiltin_max {k : IntKind} {ts : Array TypeId} {x y : Int} : abuiltin prog .max ts #[.int k x, .int k y] = some (.int k (if x < y then y else x)) := by simp [abuiltin, amm]
theorem abuiltin_min {k : IntKind} {ts : Array TypeId} {x y : Int} : abuiltin prog .min ts #[.int k x, .int k y] = some (.int k (if y < x then y else x)) := by simp [abuiltin, amm]
theorem mxV {k : IntKind} {ts : Array TypeId} {x y : Int} : abuiltin prog .max ts #[.int k x, .int k y] = some (.int k (imax x y)) := abuiltin_max
theorem mnV {k : IntKind} {ts : Array TypeId} {x y : Int} : abuiltin prog .min ts #[.int k x, .int k y] = some (.int k (imin x y)) := abuiltin_min
def lastV (cv : Value) : Option Nat → Value
  | none => .pointer none
  | some i => .pointer (some (eltA cv 3 i))
theorem one_lastV {cv : Value} {o : Option Nat} : one (lastV cv o) = true := by cases o <;> rfl
def tF (X : TX) (cv : Value) (f : Nat) (nv : Value) (gr : Bool) (sv : Value) : List Value :=
  [.int .i64 X.rows, .int .i64 X.cols, cv, .int .i64 X.row, .int .i64 X.col, .int .i64 X.attr, .bool X.hid, lastV cv X.last, pt f, nv, .bool gr, sv]
/-- The program's terminal: block t, its feeder f, cells cv, sequence sv, held bytes rv. -/
structure PT (h : Heap) (Fs : Nat → Prop) (gs : List (Value × List Int)) (t : Nat) (nv : Value) (gr : Bool) (X : TX) (f : Nat) (cv sv rv : Value) (ps : List PC) (Ms : Nat → Prop) : Prop where
  var : Var h t (tF X cv f nv gr sv)
  gp : GP h Fs Ms cv X.cells ps
  fv : Var h f [rv]
  rr : RdI prog h .u8 rv X.held
  ro : Fam h (Off Fs Ms) rv
  so : OwnR prog h 1 sv X.seq.length (X.seq.map (Value.int .u8))
  mt : Ms t
  mf : Ms f
  mc : Fam h Ms cv
  ms : Fam h Ms sv
  tf : t ≠ f
  ct : blkOf cv ≠ some t
  cf : blkOf cv ≠ some f
  stn : blkOf sv ≠ some t
  sf : blkOf sv ≠ some f
  cs : ∀ y, blkOf cv = some y → ¬ FamV h sv y
  ml : ∀ n, Ms n → n < h.size
  mF : ∀ n, Ms n → Fs n
  up : ∀ n, h.size ≤ n → Fs n
  gu : ∀ p, p ∈ gs → RdI prog h .i32 p.1 p.2 ∧ Fam h (Off Fs Ms) p.1
section
variable {h h' : Heap} {Fs Ms D : Nat → Prop} {gs : List (Value × List Int)} {t f : Nat} {nv cv sv rv tv : Value} {gr : Bool} {X X' : TX} {ps ps' : List PC} {l : List Cel}
theorem PT.slt (Q : PT h Fs gs t nv gr X f cv sv rv ps Ms) : ∀ y, blkOf sv = some y → y < h.size := fun y hy => (Q.so.1.blk_lt hy).1
theorem PT.clt (Q : PT h Fs gs t nv gr X f cv sv rv ps Ms) : ∀ y, blkOf cv = some y → y < h.size := Q.gp.lt
theorem PT.sc (Q : PT h Fs gs t nv gr X f cv sv rv ps Ms) : ∀ y, blkOf sv = some y → ¬ FamV h cv y := fun y hy ⟨b, hb, k1, k2, g1, g2, e⟩ => Q.cs b hb ⟨y, hy, k2, k1, g2, g1, e.symm⟩
theorem PT.rgF (Q : PT h Fs gs t nv gr X f cv sv rv ps Ms) {x : Nat} (r : Rg Ms h x) : Rg Fs h x := r.mono Q.mF
/-- Behind what changes of its memory only what is told anew. -/
theorem PT.keep (Q : PT h Fs gs t nv gr X f cv sv rv ps Ms) (H : Wf h) (C : Ch D h h') (hD : ∀ y, D y → Rg Ms h y) (V : Var h' t (tF X' cv f nv gr sv)) (G : GP h' Fs Ms cv X'.cells ps') (dt : ∀ y, D y → y ≠ f) (ds : ∀ y, blkOf sv = some y → ¬ D y)
    (e2 : X'.held = X.held) (e3 : X'.seq = X.seq) {nv' : Value} {gr' : Bool} (V : Var h' t (tF X' cv f nv' gr' sv)) : PT h' Fs gs t nv' gr' X' f cv sv rv ps' Ms := by
  refine ⟨V, G, Ch.var H C Q.fv fun d => dt f d rfl, by rw [e2]; exact Ch.rd C Q.rr fun y hy d => Q.ro.apart (Gs := Ms) (fun n a b => a.2 b) y hy (hD y d), Q.ro.ch C fun z hz => (Q.rr.blk_lt hz).1, by rw [e3]; exact Ch.ownR C Q.so ds, Q.mt, Q.mf, Q.mc.ch C Q.clt, Q.ms.ch C Q.slt, Q.tf, Q.ct, Q.cf, Q.stn, Q.sf, fun y hy fy => ?_, fun n hn => Nat.lt_of_lt_of_le (Q.ml n hn) (Ch.le C), Q.mF, fun n hn => Q.up n (Nat.le_trans (Ch.le C) hn), fun p hp => ⟨Ch.rd C (Q.gu p hp).1 fun y hy d => (Q.gu p hp).2.apart (Gs := Ms) (fun n a b => a.2 b) y hy (hD y d), (Q.gu p hp).2.ch C fun z hz => ((Q.gu p hp).1.blk_lt hz).1⟩⟩
  rcases FamV.back C Q.slt fy with g | g
  · have := Q.clt y hy; omega
  · exact Q.cs y hy g
theorem PT.keeps (Q : PT h Fs gs t nv gr X f cv sv rv ps Ms) (H : Wf h) (K : Keeps h h') : PT h' Fs gs t nv gr X f cv sv rv ps Ms :=
  Q.keep H K (fun y e => e.elim) (Keeps.var H K Q.var) (Q.gp.keeps K) (fun y e => e.elim) (fun y _ e => e) rfl rfl (Keeps.var H K Q.var)
/-- A field of its own was written. -/
theorem PT.own (Q : PT h Fs gs t nv gr X f cv sv rv ps Ms) (H : Wf h) (C : Ch (fun y => y = t) h h') {nv' : Value} {gr' : Bool} (V : Var h' t (tF X' cv f nv' gr' sv)) (e1 : X'.cells = X.cells) (e2 : X'.held = X.held) (e3 : X'.seq = X.seq) : PT h' Fs gs t nv' gr' X' f cv sv rv ps Ms := by
  have hD : ∀ y, y = t → Rg Ms h y := fun y e => by subst e; exact Q.var.rg Q.mt
  refine ⟨V, by rw [e1]; exact Q.gp.ch C hD (fun y hy e => Q.ct (by rw [hy, e])), Ch.var H C Q.fv fun e => Q.tf e.symm, by rw [e2]; exact Ch.rd C Q.rr fun y hy d => Q.ro.apart (Gs := Ms) (fun n a b => a.2 b) y hy (hD y d), Q.ro.ch C fun z hz => (Q.rr.blk_lt hz).1, by rw [e3]; exact Ch.ownR C Q.so fun y hy e => Q.stn (by rw [hy, e]), Q.mt, Q.mf, Q.mc.ch C Q.clt, Q.ms.ch C Q.slt, Q.tf, Q.ct, Q.cf, Q.stn, Q.sf, fun y hy fy => ?_, fun n hn => Nat.lt_of_lt_of_le (Q.ml n hn) (Ch.le C), Q.mF, fun n hn => Q.up n (Nat.le_trans (Ch.le C) hn), fun p hp => ⟨Ch.rd C (Q.gu p hp).1 fun y hy d => (Q.gu p hp).2.apart (Gs := Ms) (fun n a b => a.2 b) y hy (hD y d), (Q.gu p hp).2.ch C fun z hz => ((Q.gu p hp).1.blk_lt hz).1⟩⟩
  rcases FamV.back C Q.slt fy with g | g
  · have := Q.clt y hy; omega
  · exact Q.cs y hy g
/-- Cells were written. -/
theorem PT.cells (Q : PT h Fs gs t nv gr X f cv sv rv ps Ms) (H : Wf h) (C : Ch (FamV h cv) h h') {l' : List Cel} (G : GP h' Fs Ms cv l' ps') : PT h' Fs gs t nv gr { X with cells := l' } f cv sv rv ps' Ms := by
  have hD : ∀ y, FamV h cv y → Rg Ms h y := fun y e => FamV.rg Q.mc e
  refine ⟨Ch.var H C Q.var (Q.var.notFam Q.ct), G, Ch.var H C Q.fv (Q.fv.notFam Q.cf), Ch.rd C Q.rr fun y hy d => Q.ro.apart (Gs := Ms) (fun n a b => a.2 b) y hy (hD y d), Q.ro.ch C fun z hz => (Q.rr.blk_lt hz).1, Ch.ownR C Q.so Q.sc, Q.mt, Q.mf, Q.mc.ch C Q.clt, Q.ms.ch C Q.slt, Q.tf, Q.ct, Q.cf, Q.stn, Q.sf, fun y hy fy => ?_, fun n hn => Nat.lt_of_lt_of_le (Q.ml n hn) (Ch.le C), Q.mF, fun n hn => Q.up n (Nat.le_trans (Ch.le C) hn), fun p hp => ⟨Ch.rd C (Q.gu p hp).1 fun y hy d => (Q.gu p hp).2.apart (Gs := Ms) (fun n a b => a.2 b) y hy (hD y d), (Q.gu p hp).2.ch C fun z hz => ((Q.gu p hp).1.blk_lt hz).1⟩⟩
  rcases FamV.back C Q.slt fy with g | g
  · have := Q.clt y hy; omega
  · exact Q.cs y hy g
/-- A new row is none of the written memory. -/
theorem PT.fresh (Q : PT h Fs gs t nv gr X f cv sv rv ps Ms) (K : Keeps h h') (hz : ∀ z, blkOf tv = some z → h.size ≤ z) : Fam h' (Off Fs Ms) tv :=
  (Fam.freshK K hz).mono fun n hn => ⟨Q.up n hn.1, fun m => by have := Q.ml n m; omega⟩
theorem PT.dirtyT (Q : PT h Fs gs t nv gr X f cv sv rv ps Ms) (C : Ch (fun y => y = t) h h') : Ch (Rg Fs h) h h' := C.mono fun y e => by subst e; exact (Q.var.rg Q.mt).mono Q.mF
theorem PT.dirtyC (Q : PT h Fs gs t nv gr X f cv sv rv ps Ms) (C : Ch (FamV h cv) h h') : Ch (Rg Fs h) h h' := C.mono fun y e => (FamV.rg Q.mc e).mono Q.mF
theorem GP.more (H : Wf h) (G : GP h Fs Ms cv l ps) {Ms' : Nat → Prop} (hm : ∀ n, n < h.size → Ms' n → Ms n) : GP h Fs Ms' cv l ps :=
  ⟨G.eq, G.own, G.rd, fun p hp z k hz g => ⟨(G.off p hp z k hz g).1, fun m => (G.off p hp z k hz g).2 (hm _ (by have := H.2 z k g; have := H.lt g; omega) m)⟩⟩
theorem Var.alone {b x : Nat} {cs : List Value} (V : Var h b cs) {k k' : Blk} (hx : x ≠ b) (g : h.get x = some k') (gb : h.get b = some k) : k'.fam ≠ k.fam := by
  obtain ⟨k0, g0, _, _, _, h5, h6⟩ := V
  rw [g0] at gb; cases gb
  rw [h5]; exact h6 x k' hx g
/-- The sequence's row is another one. -/
theorem PT.seq (Q : PT h Fs gs t nv gr X f cv sv rv ps Ms) (H : Wf h) (C : Ch D h h') (hD : ∀ y, D y → y = t ∨ FamV h sv y) {sv' nv' : Value} {gr' : Bool} (V : Var h' t (tF X' cv f nv' gr' sv')) (O : OwnR prog h' 1 sv' X'.seq.length (X'.seq.map (Value.int .u8)))
    (hb : ∀ z, blkOf sv' = some z → h.size ≤ z ∨ blkOf sv = some z) (e1 : X'.cells = X.cells) (e2 : X'.held = X.held) : ∃ Ms', PT h' Fs gs t nv' gr' X' f cv sv' rv ps Ms' := by
  have hR : ∀ y, D y → Rg Ms h y := fun y d => by
    rcases hD y d with rfl | d
    · exact Q.var.rg Q.mt
    · exact FamV.rg Q.ms d
  have CR : Ch (Rg Ms h) h h' := C.mono hR
  have hle := Ch.le C
  have hcD : ∀ y, blkOf cv = some y → ¬ D y := fun y hy d => by
    rcases hD y d with rfl | d
    · exact Q.ct hy
    · exact Q.cs y hy d
  have hfD : ¬ D f := fun d => by
    rcases hD f d with e | d
    · exact Q.tf e.symm
    · exact Q.fv.notFam Q.sf d
  refine ⟨fun n => Ms n ∨ h.size ≤ n ∧ n < h'.size, V, ?_, Ch.var H C Q.fv hfD, ?_, ?_, O, .inl Q.mt, .inl Q.mf, (Q.mc.ch C Q.clt).mono fun n m => .inl m, ?_, Q.tf, Q.ct, Q.cf, ?_, ?_, ?_, ?_, ?_, fun n hn => Q.up n (by omega), fun p hp => ⟨Ch.rd C (Q.gu p hp).1 fun y hy d => (Q.gu p hp).2.apart (Gs := Ms) (fun n a b => a.2 b) y hy (hR y d), fun z k hz g => ?_⟩⟩
  · have G := Q.gp.ch C hR hcD
    rw [e1]
    refine ⟨G.eq, G.own, G.rd, fun p hp z k hz g => ⟨(G.off p hp z k hz g).1, fun m => ?_⟩⟩
    rcases m with m | m
    · exact (G.off p hp z k hz g).2 m
    · have hz0 := ((Q.gp.rd p hp).blk_lt hz).1
      obtain ⟨k0, g0, e⟩ := C.2.2.2.2.1 z k hz0 g
      have := H.2 z k0 g0
      omega
  · rw [e2]; exact Ch.rd C Q.rr fun y hy d => Q.ro.apart (Gs := Ms) (fun n a b => a.2 b) y hy (hR y d)
  · intro z k hz g
    have hz0 := (Q.rr.blk_lt hz).1
    obtain ⟨k0, g0, e⟩ := C.2.2.2.2.1 z k hz0 g
    have hk := H.2 z k0 g0
    have ho := Q.ro z k0 hz g0
    rw [e]
    exact ⟨ho.1, fun m => m.elim ho.2 fun m => by omega⟩
  · intro z k hz g
    rcases hb z hz with h1 | h1
    · exact Fam.fresh CR (fun w hw => by rw [hz] at hw; cases hw; exact h1) z k hz g
    · obtain ⟨k0, g0, e⟩ := C.2.2.2.2.1 z k (Q.slt z h1) g
      rw [e]; exact .inl (Q.ms z k0 h1 g0)
  · intro e
    rcases hb t e with h1 | h1
    · have := Q.var.lt H; omega
    · exact Q.stn h1
  · intro e
    rcases hb f e with h1 | h1
    · have := Q.fv.lt H; omega
    · exact Q.sf h1
  · rintro y hy ⟨z, hz, k1, k2, g1, g2, e⟩
    have hy0 := Q.clt y hy
    obtain ⟨k10, g10, e1⟩ := C.2.2.2.2.1 y k1 hy0 g1
    have hk1 := H.2 y k10 g10
    rcases hb z hz with h1 | h1
    · rcases C.2.2.2.1 z k2 h1 g2 with h2 | ⟨w, k3, d, g3, e3⟩
      · omega
      · rcases hD w d with rfl | ⟨b', hb', q1, q2, r1, r2, r3⟩
        · exact Q.var.alone (fun e => Q.ct (by rw [hy, e])) g10 g3 (by rw [← e1, e, e3])
        · rw [g3] at r1; cases r1
          exact Q.cs y hy ⟨b', hb', k10, q2, g10, r2, by rw [← e1, e, e3, r3]⟩
    · obtain ⟨k20, g20, e2⟩ := C.2.2.2.2.1 z k2 (Q.slt z h1) g2
      exact Q.cs y hy ⟨z, h1, k10, k20, g10, g20, by rw [← e1, e, e2]⟩
  · intro n m
    rcases m with m | m
    · have := Q.ml n m; omega
    · exact m.2
  · intro n m
    rcases m with m | m
    · exact Q.mF n m
    · exact Q.up n m.1
  · have hz0 := ((Q.gu p hp).1.blk_lt hz).1
    obtain ⟨k0, g0, e⟩ := C.2.2.2.2.1 z k hz0 g
    have hk := H.2 z k0 g0
    have ho := (Q.gu p hp).2 z k0 hz g0
    rw [e]
    exact ⟨ho.1, fun m => m.elim ho.2 fun m => by omega⟩
/-- What of a terminal is loaded. -/
theorem PT.load (Q : PT h Fs gs t nv gr X f cv sv rv ps Ms) :
    aload prog h 3 ⟨t, 0, none⟩ = some (.int .i64 X.rows) ∧ aload prog h 3 ⟨t, 1, none⟩ = some (.int .i64 X.cols) ∧ aload prog h 36 ⟨t, 2, none⟩ = some cv ∧
    aload prog h 3 ⟨t, 3, none⟩ = some (.int .i64 X.row) ∧ aload prog h 3 ⟨t, 4, none⟩ = some (.int .i64 X.col) ∧ aload prog h 3 ⟨t, 5, none⟩ = some (.int .i64 X.attr) ∧
    aload prog h 4 ⟨t, 6, none⟩ = some (.bool X.hid) ∧ aload prog h 58 ⟨t, 7, none⟩ = some (lastV cv X.last) ∧ aload prog h 56 ⟨t, 8, none⟩ = some (pt f) ∧
    aload prog h 60 ⟨t, 9, none⟩ = some nv ∧ aload prog h 4 ⟨t, 10, none⟩ = some (.bool gr) ∧ aload prog h 29 ⟨t, 11, none⟩ = some sv := by
  have V := Q.var
  exact ⟨V.load1 (i := 0) underlying3 rfl, V.load1 (i := 1) underlying3 rfl, V.load1 (i := 2) underlying36 rfl, V.load1 (i := 3) underlying3 rfl, V.load1 (i := 4) underlying3 rfl, V.load1 (i := 5) underlying3 rfl,
    V.load1 (i := 6) underlying4 rfl, V.load1 (i := 7) underlying58 rfl, V.load1 (i := 8) underlying56 rfl, V.load1 (i := 9) underlying60 rfl, V.load1 (i := 10) underlying4 rfl, V.load1 (i := 11) underlying29 rfl⟩
end
/-- The program's terminal, its parts left untold. -/
def PM (h : Heap) (Fs : Nat → Prop) (gs : List (Value × List Int)) (t : Nat) (nv : Value) (gr : Bool) (X : TX) : Prop := ∃ f cv sv rv ps Ms, PT h Fs gs t nv gr X f cv sv rv ps Ms
structure Inv (X : TX) : Prop where
  r : 2 ≤ X.rows ∧ X.rows ≤ 500
  c : 2 ≤ X.cols ∧ X.cols ≤ 1000
  n : (X.cells.length : Int) = X.rows * X.cols
  row : 0 ≤ X.row ∧ X.row < X.rows
  col : 0 ≤ X.col ∧ X.col < X.cols
  emp : ∀ (i : Nat) (c : Cel), X.cells[i]? = some c → c.tx = [] → ∃ (j : Nat) (d : Cel), i = j + 1 ∧ X.cells[j]? = some d ∧ d.wd = true ∧ (i : Int) % X.cols ≠ 0
  wid : ∀ (i : Nat) (c : Cel), X.cells[i]? = some c → c.wd = true → ∃ d : Cel, X.cells[i + 1]? = some d ∧ d.tx = []
  nw : ∀ (i : Nat) (c : Cel), X.cells[i]? = some c → c.tx = [] → c.wd = false
  last : ∀ i : Nat, X.last = some i → ∃ c : Cel, X.cells[i]? = some c ∧ c.tx ≠ []
theorem move_ok {h : Heap} {Fs : Nat → Prop} {gs : List (Value × List Int)} {t : Nat} {nv : Value} {gr : Bool} {X : TX} {r c : Int} (P : PM h Fs gs t nv gr X) (hr : 2 ≤ X.rows ∧ X.rows ≤ 500) (hc : 2 ≤ X.cols ∧ X.cols ≤ 1000) :
    ACalls prog 52 #[pt t, .int .i64 r, .int .i64 c] h (fun y h' => y = .tuple #[] ∧ PM h' Fs gs t nv gr (moveX X r c) ∧ Ch (Rg Fs h) h h') := by
  refine acalls_of_W' func52 rfl (by kernel_rfl) (by kernel_rfl) (by simp [ntmps52]) ?_
  intro H
  obtain ⟨f, cv, sv, rv, ps, Ms, Q⟩ := P
  obtain ⟨l0, l1, l2, l3, l4, l5, l6, l7, l8, l9, l10, l11⟩ := Q.load
  have w0 : IntKind.i64.wrap (X.rows - 1) = X.rows - 1 := IntWalk.i64_in _ (by omega)
  have w1 : IntKind.i64.wrap (X.cols - 1) = X.cols - 1 := IntWalk.i64_in _ (by omega)
  obtain ⟨h1, e1, V1, C1, z1⟩ := Q.var.store1 (P := prog) (t := 3) (v := .int .i64 (clampZ r X.rows)) (i := 3) H asz3 (by simp [tF]) rfl
  have Q1 : PT h1 Fs gs t nv gr { X with row := clampZ r X.rows } f cv sv rv ps Ms := Q.own H C1 V1 rfl rfl rfl
  obtain ⟨h2, e2, V2, C2, z2⟩ := Q1.var.store1 (P := prog) (t := 3) (v := .int .i64 (clampZ c X.cols)) (i := 4) (Ch.wf C1) asz3 (by simp [tF]) rfl
  have Q2 : PT h2 Fs gs t nv gr (moveX X r c) f cv sv rv ps Ms := Q1.own (Ch.wf C1) C2 V2 rfl rfl rfl
  simp only [wk, wt, wl, ↓reduceIte, Nat.reduceEqDiff, Nat.reduceAdd, Nat.zero_add, not_false_eq_true, not_true_eq_false, pt]
  refine adraw_order [(0, false), (1, false), (2, false), (3, false), (4, false), (5, false), (6, false), (7, false), (8, false), (9, false), (10, false), (11, false), (12, false), (13, false), (14, false), (15, false), (16, false), (17, false), (18, false), (19, false), (20, false), (21, false), (22, false), (23, false), (24, false), (25, false), (26, false), (27, false)] mixed (by kernel_rfl) (by kernel_rfl) (by kernel_rfl) (by with_reducible repeat (first | exact PF_retK | refine PF_thenK ?_ | refine PF_blockK ?_)) ?_
  simp only [clampZ] at e1 e2
  simp only [wk, wt, wl, ↓reduceIte, Nat.reduceEqDiff, Nat.reduceAdd, Nat.zero_add, not_false_eq_true, not_true_eq_false, l0, l1, mxV, mnV, w0, w1, e1, e2]
  exact ⟨⟨f, cv, sv, rv, ps, Ms, Q2⟩, (Q.dirtyT C1).thenR (Q1.dirtyT C2)⟩
end Go.Proofs.YtefpalmihdbmiaaDoor.Am
end
section
/- The program's terminal: contracts of back, escaped, Attr, Shown, Waits, blank, Blank, by walks. -/
set_option linter.unusedSimpArgs false
set_option linter.unusedVariables false
set_option maxHeartbeats 4000000
set_option maxRecDepth 20000
namespace Go.Proofs.YtefpalmihdbmiaaDoor.Am
open Go Go.RowKit Go.Proofs.Tryd
def plainF (t : Nat) : Value := .func (.func 32) #[pt t] #[]
def escF (t : Nat) : Value := .func (.func 51) #[pt t] #[]
def insF (t : Nat) : Value := .func (.func 64) #[pt t] #[]
/-- Where bytes stand, as a function. -/
def stF (t : Nat) (s : Nat) : Value := if s = 1 then escF t else if s = 2 then insF t else plainF t
theorem ptr_ne {t e : TypeId} {a : Addr} (ht : prog.underlying t = some (.pointer e)) : abin prog .neq t (.pointer (some a)) (.pointer none) = some (.bool true) := by simp [abin, aeq, ht]
theorem ptr_ne0 {t e : TypeId} (ht : prog.underlying t = some (.pointer e)) : abin prog .neq t (.pointer none) (.pointer none) = some (.bool false) := by simp [abin, aeq, ht]
theorem PM.st {h : Heap} {Fs : Nat → Prop} {gs : List (Value × List Int)} {t : Nat} {nv : Value} {gr : Bool} {X : TX} (P : PM h Fs gs t nv gr X) (s : Nat) : PM h Fs gs t nv gr { X with st := s } := by
  obtain ⟨f, cv, sv, rv, ps, Ms, Q⟩ := P
  exact ⟨f, cv, sv, rv, ps, Ms, ⟨Q.var, Q.gp, Q.fv, Q.rr, Q.ro, Q.so, Q.mt, Q.mf, Q.mc, Q.ms, Q.tf, Q.ct, Q.cf, Q.stn, Q.sf, Q.cs, Q.ml, Q.mF, Q.up, Q.gu⟩⟩
theorem back_ok {h : Heap} {Fs : Nat → Prop} {gs : List (Value × List Int)} {t : Nat} {nv : Value} {gr : Bool} {X : TX} (P : PM h Fs gs t nv gr X) :
    ACalls prog 49 #[pt t] h (fun y h' => y = plainF t ∧ PM h' Fs gs t nv true X ∧ Ch (Rg Fs h) h h') := by
  refine acalls_of_W' func49 rfl (by kernel_rfl) (by kernel_rfl) (by simp [ntmps49]) ?_
  intro H
  obtain ⟨f, cv, sv, rv, ps, Ms, Q⟩ := P
  obtain ⟨h1, e1, V1, C1, z1⟩ := Q.var.store1 (P := prog) (t := 4) (v := .bool true) (i := 10) H asz4 (by simp [tF]) rfl
  have Q1 : PT h1 Fs gs t nv true X f cv sv rv ps Ms := Q.own H C1 V1 rfl rfl rfl
  simp only [wk, wt, wl, ↓reduceIte, Nat.reduceEqDiff, Nat.reduceAdd, Nat.zero_add, not_false_eq_true, not_true_eq_false, pt, e1]
  exact ⟨rfl, ⟨f, cv, sv, rv, ps, Ms, Q1⟩, Q.dirtyT C1⟩
theorem attr_ok {h : Heap} {Fs : Nat → Prop} {gs : List (Value × List Int)} {t : Nat} {nv : Value} {gr : Bool} {X : TX} (P : PM h Fs gs t nv gr X) :
    ACalls prog 20 #[pt t] h (fun y h' => y = .int .i64 X.attr ∧ h' = h) := by
  refine acalls_of_W func20 rfl (by kernel_rfl) (by kernel_rfl) (by simp [ntmps20]) ?_
  obtain ⟨f, cv, sv, rv, ps, Ms, Q⟩ := P
  obtain ⟨l0, l1, l2, l3, l4, l5, l6, l7, l8, l9, l10, l11⟩ := Q.load
  have PN := fun {a : Addr} => ptr_some (P := prog) (a := a) underlying25
  simp only [wk, wt, wl, ↓reduceIte, Nat.reduceEqDiff, Nat.reduceAdd, Nat.zero_add, not_false_eq_true, not_true_eq_false, pt, PN, l5]
theorem shown_ok {h : Heap} {Fs : Nat → Prop} {gs : List (Value × List Int)} {t : Nat} {nv : Value} {gr : Bool} {X : TX} (P : PM h Fs gs t nv gr X) :
    ACalls prog 21 #[pt t] h (fun y h' => y = .bool (!X.hid) ∧ h' = h) := by
  refine acalls_of_W func21 rfl (by kernel_rfl) (by kernel_rfl) (by simp [ntmps21]) ?_
  obtain ⟨f, cv, sv, rv, ps, Ms, Q⟩ := P
  obtain ⟨l0, l1, l2, l3, l4, l5, l6, l7, l8, l9, l10, l11⟩ := Q.load
  have PN := fun {a : Addr} => ptr_ne (a := a) underlying25
  simp only [wk, wt, wl, ↓reduceIte, Nat.reduceEqDiff, Nat.reduceAdd, Nat.zero_add, not_false_eq_true, not_true_eq_false, pt, PN, l6]
theorem waits_ok {h : Heap} {Fs : Nat → Prop} {gs : List (Value × List Int)} {t : Nat} {nv : Value} {gr : Bool} {X : TX} (P : PM h Fs gs t nv gr X) :
    ACalls prog 19 #[pt t] h (fun y h' => y = .bool (!gr || decide (X.held ≠ [])) ∧ h' = h) := by
  refine acalls_of_W func19 rfl (by kernel_rfl) (by kernel_rfl) (by simp [ntmps19]) ?_
  obtain ⟨f, cv, sv, rv, ps, Ms, Q⟩ := P
  obtain ⟨l0, l1, l2, l3, l4, l5, l6, l7, l8, l9, l10, l11⟩ := Q.load
  have PN := fun {a : Addr} => ptr_ne (a := a) underlying25
  cases gr with
  | false => simp only [wk, wt, wl, ↓reduceIte, Nat.reduceEqDiff, Nat.reduceAdd, Nat.zero_add, not_false_eq_true, not_true_eq_false, pt, PN, l10, Bool.not_false, Bool.true_or]
  | true =>
    simp only [wk, wt, wl, ↓reduceIte, Nat.reduceEqDiff, Nat.reduceAdd, Nat.zero_add, not_false_eq_true, not_true_eq_false, pt, PN, l10, Bool.not_true, l8]
    refine (held_ok ⟨rv, Q.fv, Q.rr⟩).use_pure ?_
    have hd : decide (0 < (X.held.length : Int)) = decide (X.held ≠ []) := decide_eq_decide.2 (by cases X.held <;> simp <;> omega)
    simp only [wk, wt, wl, ↓reduceIte, Nat.reduceEqDiff, Nat.reduceAdd, Nat.zero_add, not_false_eq_true, not_true_eq_false, hd, Bool.false_or]
theorem escaped_ok {h : Heap} {Fs : Nat → Prop} {gs : List (Value × List Int)} {t : Nat} {nv : Value} {gr : Bool} {X : TX} {b : Int} (P : PM h Fs gs t nv false X) (hs : X.st = 1) :
    ACalls prog 51 #[pt t, .int .u8 b] h (fun y h' => y = stF t (stepX X b).st ∧ PM h' Fs gs t nv (decide ((stepX X b).st = 0)) (stepX X b) ∧ Ch (Rg Fs h) h h') := by
  refine acalls_of_W' func51 rfl (by kernel_rfl) (by kernel_rfl) (by simp [ntmps51]) ?_
  intro H
  by_cases hb : b = 91
  · have d1 : decide (¬ b = 91) = false := decide_eq_false fun e => e hb
    obtain ⟨f, cv, sv, rv, ps, Ms, Q⟩ := P
    obtain ⟨l0, l1, l2, l3, l4, l5, l6, l7, l8, l9, l10, l11⟩ := Q.load
    have S1 := Rd.sliceHi Q.so.1 underlying29 asz5 (q' := .i64) (j := (0 : Int)) (by omega) (by omega)
    have O1 := Q.so.part (L := 0) (H := 0) (Nat.le_refl _) (Nat.zero_le _)
    obtain ⟨h1, e1, V1, C1, z1⟩ := Q.var.store1 (P := prog) (t := 29) (v := sliceV sv 1 0 0) (i := 11) H asz29 (by simp [tF]) O1.1.one
    have hbk : blkOf (sliceV sv 1 0 0) = blkOf sv := sliceV_blk
    have hX : stepX X b = { X with st := 2, seq := [] } := by unfold stepX; rw [if_pos hs, if_pos hb]
    rw [hX]
    have O2 := Ch.ownR C1 O1 fun y hy e => Q.stn (by rw [← hbk, hy, e])
    simp only [List.drop_zero, Nat.zero_mul, Nat.sub_self, List.take_zero] at O2
    obtain ⟨Ms', Q2⟩ := Q.seq (X' := { X with st := 2, seq := [] }) H C1 (fun y e => .inl e) V1 O2 (fun z hz => .inr (by rw [← hbk]; exact hz)) rfl rfl
    simp only [wk, wt, wl, ↓reduceIte, Nat.reduceEqDiff, Nat.reduceAdd, Nat.zero_add, not_false_eq_true, not_true_eq_false, pt, d1, l11, S1, Int.toNat_zero, e1]
    exact ⟨rfl, ⟨f, cv, _, rv, ps, Ms', Q2⟩, Q.dirtyT C1⟩
  · have d1 : decide (¬ b = 91) = true := decide_eq_true hb
    have hX : stepX X b = { X with st := 0 } := by unfold stepX; rw [if_pos hs, if_neg hb]
    rw [hX]
    simp only [wk, wt, wl, ↓reduceIte, Nat.reduceEqDiff, Nat.reduceAdd, Nat.zero_add, not_false_eq_true, not_true_eq_false, pt, d1]
    refine (back_ok P).use ?_
    rintro _ h1 ⟨rfl, P1, C1⟩
    simp only [wk, wt, wl, ↓reduceIte, Nat.reduceEqDiff, Nat.reduceAdd, Nat.zero_add, not_false_eq_true, not_true_eq_false]
    exact ⟨rfl, P1.st 0, C1⟩
end Go.Proofs.YtefpalmihdbmiaaDoor.Am
end
section
/- A blank grid: contracts of grid.blank, grid.Blank, by walks. -/
set_option linter.unusedSimpArgs false
set_option linter.unusedVariables false
set_option maxHeartbeats 4000000
set_option maxRecDepth 20000
namespace Go.Proofs.YtefpalmihdbmiaaDoor.Am
open Go Go.RowKit Go.Proofs.Tryd
theorem build_cell2 {o : Option Addr} {n c : Nat} {a : Int} : abuild prog 50 #[(0, .slice o n c), (1, .int .i64 a)] = some (.agg #[.slice o n c, .int .i64 a, .bool false]) := by
  simp [abuild, wt, aplaces, Instr.fill, Value.cells]
theorem build_cell1 {o : Option Addr} {n c : Nat} : abuild prog 50 #[(0, .slice o n c)] = some (.agg #[.slice o n c, .int .i64 0, .bool false]) := by
  simp [abuild, wt, aplaces, Instr.fill, Value.cells]
theorem rdI_new {h : Heap} (H : Wf h) {xs : List Int} {c : Nat} : RdI prog (h.new 21 (xs.map (Value.int .i32))) .i32 (.slice (some ⟨h.size, 0, none⟩) xs.length c) xs :=
  Rd.new H asz21 (by simp)
theorem blk_new {x n c : Nat} : ∀ z, blkOf (.slice (some ⟨x, 0, none⟩) n c) = some z → x ≤ z := fun z e => by cases e; exact Nat.le_refl _
theorem blank_ok {h : Heap} {a : Int} : ACalls prog 46 #[.int .i64 a] h (fun y h' => ∃ tv, y = .agg #[tv, .int .i64 a, .bool false] ∧ RdI prog h' .i32 tv [32] ∧ (∀ z, blkOf tv = some z → h.size ≤ z) ∧ Keeps h h') := by
  refine acalls_of_W' func46 rfl (by kernel_rfl) (by kernel_rfl) (by simp [ntmps46]) ?_
  intro H
  have N1 := Keeps.new H 50 [.slice none 0 0, .int .i64 0, .bool false]
  have V1 := Var.new (e := 50) H (cs := [.slice none 0 0, .int .i64 0, .bool false])
  have N2 := Keeps.new (Ch.wf N1) 21 [.int .i32 32]
  have R2 : RdI prog ((h.new 50 [.slice none 0 0, .int .i64 0, .bool false]).new 21 [.int .i32 32]) .i32 (.slice (some ⟨h.size + 1, 0, none⟩) 1 2) [32] := rdI_new (Ch.wf N1) (xs := [32])
  have V2 := Keeps.var (Ch.wf N1) N2 V1
  simp only [wk, wt, wl, ↓reduceIte, Nat.reduceEqDiff, Nat.reduceAdd, Nat.zero_add, not_false_eq_true, not_true_eq_false, new_size, build_cell2]
  generalize (h.new 50 [.slice none 0 0, .int .i64 0, .bool false]).new 21 [.int .i32 32] = h2 at *
  obtain ⟨h3, e3, V3, C3, z3⟩ := V2.store (P := prog) (t := 50) (v := .agg #[.slice (some ⟨h.size + 1, 0, none⟩) 1 2, .int .i64 a, .bool false]) (i := 0) (Ch.wf N2) asz50 (by simp [Value.cells]) (by simp [Value.cells, one])
  simp only [Value.cells, over_all (xs := [.slice none 0 0, .int .i64 0, .bool false]) (vs := [.slice (some ⟨h.size + 1, 0, none⟩) 1 2, .int .i64 a, .bool false]) rfl] at V3
  have L3 := V3.loadA (P := prog) (t := 50) underlying50 rfl asz50
  simp only [wk, wt, wl, ↓reduceIte, Nat.reduceEqDiff, Nat.reduceAdd, Nat.zero_add, not_false_eq_true, not_true_eq_false, e3, L3]
  exact ⟨_, rfl, Ch.rd C3 R2 fun y hy e => by have := blk_new y hy; omega, fun z hz => Nat.le_of_succ_le (blk_new z hz), (N1.trans N2).step C3 fun y e => by omega⟩
def zC : PC := (.slice none 0 0, ⟨[], 0, false⟩)
theorem zeroRow (n : Nat) : (firstOf (n * 3) #[.slice none 0 0, .int .i64 0, .bool false]).toList = (List.replicate n zC).flatMap cC := by
  refine List.ext_getElem? fun j => ?_
  rcases Nat.lt_or_ge j (n * 3) with hj | hj
  · have hd : j / 3 < n := by omega
    have e : j / 3 * 3 + j % 3 = j := by omega
    have hR := fm_at cC_len (l := List.replicate n zC) (i := j / 3) (j := j % 3) (x := zC) (by simp [hd]) (by omega)
    rw [e] at hR
    rw [hR]
    have hm : j % 3 = 0 ∨ j % 3 = 1 ∨ j % 3 = 2 := by omega
    rcases hm with hm | hm | hm <;> simp [firstOf, hj, hm, cC, zC]
  · rw [List.getElem?_eq_none (by simp [firstOf]; omega), List.getElem?_eq_none (by rw [fm_len cC_len]; simp; omega)]
theorem mkCells {h : Heap} {n : Nat} (hn : n ≤ 500000) : amakeSlice prog h 36 (.int .i64 n) (.int .i64 n) = some (.slice (some ⟨h.size, 0, none⟩) n (n + 1), h.new 50 ((List.replicate n zC).flatMap cC)) := by
  rw [← zeroRow]
  obtain ⟨f1, f2, f3⟩ := fits50
  simp only [amakeSlice, underlying36, elem50, azero50, f2, f3]
  rw [if_pos ⟨by omega, by omega, by omega, by omega, by simp [Value.cells, one], rfl⟩]
  simp [Value.cells]
theorem replAt {i n : Nat} {a b : Cel} (hi : i < n) : (List.replicate i a ++ List.replicate (n - i) b).set i a = List.replicate (i + 1) a ++ List.replicate (n - (i + 1)) b := by
  refine List.ext_getElem? fun j => ?_
  simp only [List.getElem?_set, List.getElem?_append, List.getElem?_replicate, List.length_append, List.length_replicate]
  (repeat' split) <;> first | rfl | (exfalso; omega) | omega
/-- The blank grid that is made. -/
theorem blankG_ok {h : Heap} {r c : Int} : ACalls prog 30 #[.int .i64 r, .int .i64 c] h (fun y h' => ∃ cb ps, y = .agg #[.int .i64 (sizeR r), .int .i64 (sizeC c), .slice (some ⟨cb, 0, none⟩) (blankL r c).length ((blankL r c).length + 1), .int .i64 0, .int .i64 0] ∧
    GP h' (fun n => h.size ≤ n) (fun n => n = cb) (.slice (some ⟨cb, 0, none⟩) (blankL r c).length ((blankL r c).length + 1)) (blankL r c) ps ∧ Fam h' (fun n => n = cb) (.slice (some ⟨cb, 0, none⟩) (blankL r c).length ((blankL r c).length + 1)) ∧ h.size ≤ cb ∧ Keeps h h') := by
  refine acalls_of_W' func30 rfl (by kernel_rfl) (by kernel_rfl) (by simp [ntmps30]) ?_
  intro H
  have hR : 2 ≤ sizeR r ∧ sizeR r ≤ 500 := by have M1 := imax_spec r 2; have M2 := imin_spec (imax r 2) 500; unfold sizeR; omega
  have hC : 2 ≤ sizeC c ∧ sizeC c ≤ 1000 := by have M1 := imax_spec c 2; have M2 := imin_spec (imax c 2) 1000; unfold sizeC; omega
  obtain ⟨n, hn⟩ : ∃ n : Nat, sizeR r * sizeC c = (n : Int) := ⟨(sizeR r * sizeC c).toNat, by have := Int.mul_nonneg (show 0 ≤ sizeR r by omega) (show 0 ≤ sizeC c by omega); omega⟩
  have hnn : n ≤ 500000 := by
    have h1 : sizeR r * sizeC c ≤ 500 * 1000 := Int.mul_le_mul (by omega) (by omega) (by omega) (by omega)
    omega
  have hbl : blankL r c = List.replicate n (bl 0) := by unfold blankL; rw [hn, Int.toNat_natCast]
  rw [hbl]
  simp only [List.length_replicate]
  have hsr : imin (imax r 2) 500 = sizeR r := rfl
  have hsc : imin (imax c 2) 1000 = sizeC c := rfl
  have wm : IntKind.i64.wrap (sizeR r * sizeC c) = (n : Int) := by rw [hn]; exact IntWalk.i64_in _ (by omega)
  generalize sizeR r = R at *
  generalize sizeC c = C at *
  have N1 := Keeps.new H 38 [.int .i64 0, .int .i64 0, .slice none 0 0, .int .i64 0, .int .i64 0]
  have N2 := Keeps.new (Ch.wf N1) 38 [.int .i64 0, .int .i64 0, .slice none 0 0, .int .i64 0, .int .i64 0]
  have V2 := Var.new (e := 38) (Ch.wf N1) (cs := [.int .i64 0, .int .i64 0, .slice none 0 0, .int .i64 0, .int .i64 0])
  have U2 := Keeps.var (Ch.wf N1) N2 (Var.new (e := 38) H (cs := [.int .i64 0, .int .i64 0, .slice none 0 0, .int .i64 0, .int .i64 0]))
  simp only [new_size] at V2
  have bg : abuild prog 38 #[(0, .int .i64 R), (1, .int .i64 C)] = some (.agg #[.int .i64 R, .int .i64 C, .slice none 0 0, .int .i64 0, .int .i64 0]) := by simp [abuild, wt, aplaces, Instr.fill, Value.cells]
  simp only [wk, wt, wl, ↓reduceIte, Nat.reduceEqDiff, Nat.reduceAdd, Nat.zero_add, not_false_eq_true, not_true_eq_false, mxV, mnV, hsr, hsc, new_size, bg]
  have K2 := N1.trans N2
  generalize (h.new 38 [.int .i64 0, .int .i64 0, .slice none 0 0, .int .i64 0, .int .i64 0]).new 38 [.int .i64 0, .int .i64 0, .slice none 0 0, .int .i64 0, .int .i64 0] = h2 at *
  obtain ⟨h3, e3, V3, C3, z3⟩ := V2.store (P := prog) (t := 38) (v := .agg #[.int .i64 R, .int .i64 C, .slice none 0 0, .int .i64 0, .int .i64 0]) (i := 0) (Ch.wf N2) asz38 (by simp [Value.cells]) (by simp [Value.cells, one])
  simp only [Value.cells, over_all (xs := [.int .i64 0, .int .i64 0, .slice none 0 0, .int .i64 0, .int .i64 0]) (vs := [.int .i64 R, .int .i64 C, .slice none 0 0, .int .i64 0, .int .i64 0]) rfl] at V3
  have K3 := K2.step C3 fun y e => by omega
  have U3 := Ch.var (Ch.wf K2) C3 U2 (by omega)
  have L0 := V3.load1 (P := prog) (i := 0) (t := 3) underlying3 rfl
  have L1 := V3.load1 (P := prog) (i := 1) (t := 3) underlying3 rfl
  simp only [List.getElem?_cons_succ, List.getElem?_cons_zero] at L0 L1
  have N4 := Keeps.new (Ch.wf K3) 50 ((List.replicate n zC).flatMap cC)
  have K4 := K3.trans N4
  have O4 : OwnR prog (h3.new 50 ((List.replicate n zC).flatMap cC)) 3 (.slice (some ⟨h3.size, 0, none⟩) n (n + 1)) n ((List.replicate n zC).flatMap cC) := OwnR.new (Ch.wf K3) asz50 (by rw [fm_len cC_len]; simp)
  have F4 : Fam (h3.new 50 ((List.replicate n zC).flatMap cC)) (fun m => m = h3.size) (.slice (some ⟨h3.size, 0, none⟩) n (n + 1)) := fun z k hz g => by
    cases hz
    simp only at g
    rw [new_self] at g; cases g; rfl
  have V4 := Keeps.var (Ch.wf K3) N4 V3
  have U4 := Keeps.var (Ch.wf K3) N4 U3
  have hh3 : h.size + 1 < h3.size := V3.lt (Ch.wf K3)
  have hz4 : (h3.new 50 ((List.replicate n zC).flatMap cC)).size = h3.size + 1 := rfl
  obtain ⟨h5, e5, V5, C5, z5⟩ := V4.store1 (P := prog) (t := 36) (v := .slice (some ⟨h3.size, 0, none⟩) n (n + 1)) (i := 2) (Ch.wf K4) asz36 (by simp) rfl
  simp only [List.set_cons_succ, List.set_cons_zero] at V5
  have K5 := K4.step C5 fun y e => by omega
  have O5 := Ch.ownR C5 O4 fun y hy e => by have := blk_new y hy; omega
  have F5 := F4.ch C5 fun z hz => (O4.1.blk_lt hz).1
  have U5 := Ch.var (Ch.wf K4) C5 U4 (by omega)
  obtain ⟨cv, hcv⟩ : ∃ cv, Value.slice (some ⟨h3.size, 0, none⟩) n (n + 1) = cv := ⟨_, rfl⟩
  have hcb : blkOf cv = some h3.size := by rw [← hcv]; rfl
  rw [hcv] at O5 F5 V5 e5
  have L2 := fun {hh : Heap} {R C : Int} (V : Var hh (h.size + 1) [.int .i64 R, .int .i64 C, cv, .int .i64 0, .int .i64 0]) => V.load1 (P := prog) (i := 2) (t := 36) underlying36 rfl
  have LA := fun {hh : Heap} {R C : Int} (V : Var hh (h.size + 1) [.int .i64 R, .int .i64 C, cv, .int .i64 0, .int .i64 0]) => V.loadA (P := prog) (t := 38) underlying38 rfl asz38
  simp only [List.getElem?_cons_succ, List.getElem?_cons_zero] at L2
  simp only [wk, wt, wl, ↓reduceIte, Nat.reduceEqDiff, Nat.reduceAdd, Nat.zero_add, not_false_eq_true, not_true_eq_false, e3, L0, L1, wm, mkCells hnn, hcv, e5, L2 V5, O5.1.len underlying36]
  have G5 : GP h5 (fun m => h.size + 2 ≤ m) (fun m => m = h3.size) cv (List.replicate n ⟨[], 0, false⟩) (List.replicate n zC) := by
    refine ⟨by simp [zC], by rw [List.length_replicate]; exact O5, fun p hp => ?_, fun p hp => ?_⟩
    · obtain rfl := (List.mem_replicate.1 hp).2
      exact Rd.nil0
    · obtain rfl := (List.mem_replicate.1 hp).2
      exact Fam.nil
  refine W_loop (fun tm h' => Keeps h h' ∧ tm 4 = pt h.size ∧ tm 5 = pt (h.size + 1) ∧ tm 23 = .int .i64 n ∧ ∃ (i : Nat) (ps : List PC), tm 24 = .int .i64 i ∧ i ≤ n ∧ Var h' (h.size + 1) [.int .i64 R, .int .i64 C, cv, .int .i64 0, .int .i64 0] ∧ Var h' h.size [.int .i64 0, .int .i64 0, .slice none 0 0, .int .i64 0, .int .i64 0] ∧ Fam h' (fun m => m = h3.size) cv ∧ h3.size < h'.size ∧
      GP h' (fun m => h.size + 2 ≤ m) (fun m => m = h3.size) cv (List.replicate i (bl 0) ++ List.replicate (n - i) ⟨[], 0, false⟩) ps)
    (fun tm _ => (n - intOf (tm 24)).toNat) ⟨K5, (by first | rfl | (simp only [wk, wt, wl, ↓reduceIte, Nat.reduceEqDiff, Nat.reduceAdd, Nat.zero_add, not_false_eq_true, not_true_eq_false]; done) | (simp only [wk, wt, wl, ↓reduceIte, Nat.reduceEqDiff, Nat.reduceAdd, Nat.zero_add, not_false_eq_true, not_true_eq_false]; rfl)), (by first | rfl | (simp only [wk, wt, wl, ↓reduceIte, Nat.reduceEqDiff, Nat.reduceAdd, Nat.zero_add, not_false_eq_true, not_true_eq_false]; done) | (simp only [wk, wt, wl, ↓reduceIte, Nat.reduceEqDiff, Nat.reduceAdd, Nat.zero_add, not_false_eq_true, not_true_eq_false]; rfl)), (by first | rfl | (simp only [wk, wt, wl, ↓reduceIte, Nat.reduceEqDiff, Nat.reduceAdd, Nat.zero_add, not_false_eq_true, not_true_eq_false]; done) | (simp only [wk, wt, wl, ↓reduceIte, Nat.reduceEqDiff, Nat.reduceAdd, Nat.zero_add, not_false_eq_true, not_true_eq_false]; rfl)), 0, List.replicate n zC, (by first | rfl | (simp only [wk, wt, wl, ↓reduceIte, Nat.reduceEqDiff, Nat.reduceAdd, Nat.zero_add, not_false_eq_true, not_true_eq_false]; done) | (simp only [wk, wt, wl, ↓reduceIte, Nat.reduceEqDiff, Nat.reduceAdd, Nat.zero_add, not_false_eq_true, not_true_eq_false]; rfl)), by omega, V5, U5, F5, by omega, by simpa using G5⟩ ?_
  rintro tm h' ⟨K, t4, t5, t23, i, ps, t24, hi, V, U, F, hlt, G⟩
  simp only [wk, wt, wl, ↓reduceIte, Nat.reduceEqDiff, Nat.reduceAdd, Nat.zero_add, not_false_eq_true, not_true_eq_false, t4, t5, t23, t24]
  refine condK_dec (fun hd => ?_) (fun hd => ?_)
  · have hl : (List.replicate i (bl 0) ++ List.replicate (n - i) (⟨[], 0, false⟩ : Cel)).length = n := by simp; omega
    have IX := G.index (z := (i : Int)) (by omega) (by rw [hl]; omega)
    simp only [Int.toNat_natCast] at IX
    simp only [wk, wt, wl, ↓reduceIte, Nat.reduceEqDiff, Nat.reduceAdd, Nat.zero_add, not_false_eq_true, not_true_eq_false, t4, t5, t23, t24, pt]
    refine adraw_order [(0, false), (1, false), (2, false), (3, true), (4, false), (5, false)] mixed (by kernel_rfl) (by kernel_rfl) (by kernel_rfl) (by with_reducible repeat (first | exact PF_retK | refine PF_thenK ?_ | refine PF_blockK ?_)) ?_
    simp only [wk, wt, wl, ↓reduceIte, Nat.reduceEqDiff, Nat.reduceAdd, Nat.zero_add, not_false_eq_true, not_true_eq_false, dK_t, t5, pt, L2 V]
    refine (blank_ok (a := 0)).use ?_
    rintro _ h6 ⟨tv, rfl, R6, hz6, K6⟩
    have G6 := G.keeps K6
    have F6 := F.ch K6 fun z hz => by rw [hcb] at hz; cases hz; exact hlt
    have hle6 := Ch.le K6
    obtain ⟨h7, e7, G7, C7, z7⟩ := G6.set (c := bl 0) (Ch.wf K6) F6 (i := i) (by rw [hl]; omega) R6 ((Fam.freshK K6 hz6).mono fun m hm => ⟨by have := Ch.le K; omega, fun e => by omega⟩)
    have hcf : ∀ x cs, Var h6 x cs → x ≠ h3.size → ¬ FamV h6 cv x := fun x cs V hx => V.notFam fun e => by rw [hcb] at e; cases e; exact hx rfl
    have V6 := Keeps.var (Ch.wf K) K6 V
    have U6 := Keeps.var (Ch.wf K) K6 U
    have V7 := Ch.var (Ch.wf K6) C7 V6 (hcf _ _ V6 (by omega))
    have U7 := Ch.var (Ch.wf K6) C7 U6 (hcf _ _ U6 (by omega))
    have F7 := F6.ch C7 fun z hz => by rw [hcb] at hz; cases hz; omega
    have K7 := (K.trans K6).step C7 fun y d => by
      obtain ⟨k, g, f⟩ := FamV.rg F6 d
      have := (Ch.wf K6).2 y k g
      omega
    rw [replAt (show i < n by omega)] at G7
    simp only [bl] at e7
    refine ⟨fun _ => K6.reads (Ch.wf K), ?_⟩
    simp (disch := omega) only [wk, wt, wl, ↓reduceIte, Nat.reduceEqDiff, Nat.reduceAdd, Nat.zero_add, not_false_eq_true, not_true_eq_false, dK_t, t4, t5, t23, t24, IX, e7, IntWalk.i64_in, intOf_int]
    exact ⟨⟨K7, rfl, rfl, i + 1, _, by simp, by omega, V7, U7, F7, by omega, G7⟩, by omega⟩
  · obtain rfl : i = n := by omega
    simp only [Nat.sub_self, List.replicate_zero, List.append_nil] at G
    obtain ⟨h8, e8, U8, C8, z8⟩ := U.store (P := prog) (t := 38) (v := .agg #[.int .i64 R, .int .i64 C, cv, .int .i64 0, .int .i64 0]) (i := 0) (Ch.wf K) asz38 (by simp [Value.cells]) (by rw [← hcv]; simp [Value.cells, one])
    simp only [Value.cells, over_all (xs := [.int .i64 0, .int .i64 0, .slice none 0 0, .int .i64 0, .int .i64 0]) (vs := [.int .i64 R, .int .i64 C, cv, .int .i64 0, .int .i64 0]) rfl] at U8
    have UA := U8.loadA (P := prog) (t := 38) underlying38 rfl asz38
    simp only [wk, wt, wl, ↓reduceIte, Nat.reduceEqDiff, Nat.reduceAdd, Nat.zero_add, not_false_eq_true, not_true_eq_false, t4, t5, pt, LA V, e8, UA]
    have F8 := F.ch C8 fun z hz => by rw [hcb] at hz; cases hz; exact hlt
    have G8 : GP h8 (fun m => h.size ≤ m) (fun m => m = h3.size) cv (List.replicate i (bl 0)) ps := ⟨G.eq, Ch.ownR C8 G.own fun y hy e => by rw [hcb] at hy; cases hy; omega, fun p hp => Ch.rd C8 (G.rd p hp) fun y hy e => ?_, fun p hp => ((G.off p hp).ch C8 fun z hz => ((G.rd p hp).blk_lt hz).1).mono fun m hm => ⟨by have := hm.1; omega, hm.2⟩⟩
    · exact ⟨h3.size, ps, by rw [hcv], by rw [hcv]; exact G8, by rw [hcv]; exact F8, by omega, K.step C8 fun y e => by omega⟩
    · subst e
      obtain ⟨k, g, f⟩ := U.fam
      have := (G.off p hp _ k hy g).1
      omega
end Go.Proofs.YtefpalmihdbmiaaDoor.Am
end
section
/- The program's terminal: contracts of New, Resize, by walks. -/
set_option linter.unusedSimpArgs false
set_option linter.unusedVariables false
set_option maxHeartbeats 4000000
set_option maxRecDepth 20000
namespace Go.Proofs.YtefpalmihdbmiaaDoor.Am
open Go Go.RowKit Go.Proofs.Tryd
def boxV (P : Program) (h : Heap) (e : TypeId) (v : Value) : Option (Value × Heap) := match asz P e with | some _ => if v.cells.all one = true then some (.pointer (some ⟨h.size, 0, none⟩), h.new e v.cells.toList) else none | none => none
theorem aeff_box {P : Program} {h : Heap} {tm : Tm} {e : TypeId} {x : Operand} : aeff P tm h (.box e x) = boxV P h e (ev tm x) := rfl
theorem build_term {r c : Int} {o : Option Addr} {n m f : Nat} : abuild prog 62 #[(0, .agg #[.int .i64 r, .int .i64 c, .slice o n m, .int .i64 0, .int .i64 0]), (4, pt f), (6, .bool true)] = some (.agg #[.int .i64 r, .int .i64 c, .slice o n m, .int .i64 0, .int .i64 0, .int .i64 0, .bool false, .pointer none, pt f, .nilFunc, .bool true, .slice none 0 0]) := by
  simp [abuild, wt, aplaces, Instr.fill, Value.cells, pt]
theorem boxV_term {h : Heap} {r c : Int} {o : Option Addr} {n m f : Nat} : boxV prog h 62 (.agg #[.int .i64 r, .int .i64 c, .slice o n m, .int .i64 0, .int .i64 0, .int .i64 0, .bool false, .pointer none, pt f, .nilFunc, .bool true, .slice none 0 0]) = some (.pointer (some ⟨h.size, 0, none⟩), h.new 62 [.int .i64 r, .int .i64 c, .slice o n m, .int .i64 0, .int .i64 0, .int .i64 0, .bool false, .pointer none, pt f, .nilFunc, .bool true, .slice none 0 0]) := by
  simp [boxV, asz62, Value.cells, one, pt]
theorem newT_ok {h : Heap} {r c : Int} : ACalls prog 10 #[.int .i64 r, .int .i64 c] h (fun y h' => ∃ t, y = pt t ∧ h.size ≤ t ∧ PM h' (fun n => h.size ≤ n) [] t (stF t 0) true (newX r c) ∧ Keeps h h') := by
  refine acalls_of_W' func10 rfl (by kernel_rfl) (by kernel_rfl) (by simp [ntmps10]) ?_
  intro H
  simp only [wk, wt, wl, ↓reduceIte, Nat.reduceEqDiff, Nat.reduceAdd, Nat.zero_add, not_false_eq_true, not_true_eq_false]
  refine (blankG_ok (r := r) (c := c)).use ?_
  rintro _ h1 ⟨cb, ps, rfl, G1, F1, hcb, K1⟩
  obtain ⟨cv, hcv⟩ : ∃ cv, Value.slice (some ⟨cb, 0, none⟩) (blankL r c).length ((blankL r c).length + 1) = cv := ⟨_, rfl⟩
  have hbk : blkOf cv = some cb := by rw [← hcv]; rfl
  simp only [wk, wt, wl, ↓reduceIte, Nat.reduceEqDiff, Nat.reduceAdd, Nat.zero_add, not_false_eq_true, not_true_eq_false]
  refine newFeeder_ok.use_pure ?_
  have N2 := Keeps.new (Ch.wf K1) 74 [.slice none 0 0]
  have V2 := Var.new (e := 74) (Ch.wf K1) (cs := [.slice none 0 0])
  have hz2 : (h1.new 74 [.slice none 0 0]).size = h1.size + 1 := rfl
  have BT := build_term (r := sizeR r) (c := sizeC c) (o := some ⟨cb, 0, none⟩) (n := (blankL r c).length) (m := (blankL r c).length + 1) (f := h1.size)
  have BX := boxV_term (h := h1.new 74 [.slice none 0 0]) (r := sizeR r) (c := sizeC c) (o := some ⟨cb, 0, none⟩) (n := (blankL r c).length) (m := (blankL r c).length + 1) (f := h1.size)
  simp only [pt, hcv] at BT BX
  rw [hcv] at G1 F1
  simp only [wk, wt, wl, ↓reduceIte, Nat.reduceEqDiff, Nat.reduceAdd, Nat.zero_add, not_false_eq_true, not_true_eq_false, hcv, BT, aeff_box, BX, hz2]
  have K2 := K1.trans N2
  have G2 := G1.keeps N2
  have hcl : cb < h1.size := G1.lt cb hbk
  have F2 := F1.ch N2 fun z hz => by rw [hbk] at hz; cases hz; exact hcl
  generalize h1.new 74 [.slice none 0 0] = h2 at *
  have N3 := Keeps.new (Ch.wf K2) 62 [.int .i64 (sizeR r), .int .i64 (sizeC c), cv, .int .i64 0, .int .i64 0, .int .i64 0, .bool false, .pointer none, pt h1.size, .nilFunc, .bool true, .slice none 0 0]
  have V3 := Var.new (e := 62) (Ch.wf K2) (cs := [.int .i64 (sizeR r), .int .i64 (sizeC c), cv, .int .i64 0, .int .i64 0, .int .i64 0, .bool false, .pointer none, pt h1.size, .nilFunc, .bool true, .slice none 0 0])
  have hz3 : (h2.new 62 [.int .i64 (sizeR r), .int .i64 (sizeC c), cv, .int .i64 0, .int .i64 0, .int .i64 0, .bool false, .pointer none, pt h1.size, .nilFunc, .bool true, .slice none 0 0]).size = h2.size + 1 := rfl
  have K3 := K2.trans N3
  have G3 := G2.keeps N3
  have F3 := F2.ch N3 fun z hz => by rw [hbk] at hz; cases hz; omega
  have V2 := Keeps.var (Ch.wf K2) N3 V2
  simp only [pt] at hz3 V3 N3 K3 G3 F3 V2
  generalize h2.new 62 [.int .i64 (sizeR r), .int .i64 (sizeC c), cv, .int .i64 0, .int .i64 0, .int .i64 0, .bool false, .pointer none, .pointer (some ⟨h1.size, 0, none⟩), .nilFunc, .bool true, .slice none 0 0] = h3 at *
  have hle1 := Ch.le K1
  have Q3 : PT h3 (fun n => h.size ≤ n) [] (h1.size + 1) .nilFunc true (newX r c) h1.size cv (.slice none 0 0) (.slice none 0 0) ps (fun n => n = cb ∨ n = h1.size ∨ n = h1.size + 1) := by
    refine ⟨by rw [hz2] at V3; exact V3, ⟨G3.eq, G3.own, G3.rd, fun p hp z k hz g => ⟨(G3.off p hp z k hz g).1, fun m => ?_⟩⟩, V2, Rd.nil0, Fam.nil, OwnR.nil0, .inr (.inr rfl), .inr (.inl rfl), F3.mono fun n e => .inl e, Fam.nil, by omega, (fun e => by rw [hbk] at e; cases e; omega), (fun e => by rw [hbk] at e; cases e; omega), (fun e => by cases e), (fun e => by cases e), fun y hy ⟨b, e, _⟩ => (by cases e), fun n m => by omega, fun n m => by show h.size ≤ n; omega, fun n hn => by show h.size ≤ n; omega, fun p hp => by cases hp⟩
    rcases m with m | m
    · exact (G3.off p hp z k hz g).2 m
    · have hzl := ((G1.rd p hp).blk_lt hz).1
      have e1 := N2.at hzl
      have e2 := N3.at (b := z) (by omega)
      rw [e2, e1] at g
      have := (Ch.wf K1).2 z k g
      omega
  obtain ⟨h4, e4, V4, C4, z4⟩ := Q3.var.store1 (P := prog) (t := 60) (v := plainF (h1.size + 1)) (i := 9) (Ch.wf K3) asz60 (by simp [tF]) rfl
  have Q4 : PT h4 (fun n => h.size ≤ n) [] (h1.size + 1) (plainF (h1.size + 1)) true (newX r c) h1.size cv (.slice none 0 0) (.slice none 0 0) ps (fun n => n = cb ∨ n = h1.size ∨ n = h1.size + 1) := Q3.own (Ch.wf K3) C4 V4 rfl rfl rfl
  simp only [plainF, pt] at e4
  simp only [wk, wt, wl, ↓reduceIte, Nat.reduceEqDiff, Nat.reduceAdd, Nat.zero_add, not_false_eq_true, not_true_eq_false, hz2, e4]
  exact ⟨h1.size + 1, rfl, by omega, ⟨_, _, _, _, _, _, Q4⟩, K3.step C4 fun y e => by omega⟩
/-- It has other cells. -/
theorem PT.regrid {h0 h h' : Heap} {Fs Ms : Nat → Prop} {gs : List (Value × List Int)} {t f cb : Nat} {nv nv' cv cv' sv rv : Value} {gr gr' : Bool} {X X' : TX} {ps ps' : List PC} {l : List Cel} (Q0 : PT h0 Fs gs t nv gr X f cv sv rv ps Ms) (H0 : Wf h0) (K : Keeps h0 h)
    (G : GP h (fun n => h0.size ≤ n) (fun n => n = cb) cv' l ps') (hbk : blkOf cv' = some cb) (F : Fam h (fun n => n = cb) cv') (hcb : h0.size ≤ cb) (C : Ch (fun y => y = t) h h') (V : Var h' t (tF X' cv' f nv' gr' sv)) (e1 : X'.cells = l) (e2 : X'.held = X.held) (e3 : X'.seq = X.seq) :
    PT h' Fs gs t nv' gr' X' f cv' sv rv ps' (fun n => Ms n ∨ n = cb) := by
  have H := Ch.wf K
  have Q := Q0.keeps H0 K
  have hle0 := Ch.le K
  have hle := Ch.le C
  have htl := Q0.var.lt H0
  have hcl : cb < h.size := G.lt cb hbk
  refine ⟨V, ?_, Ch.var H C Q.fv fun e => Q.tf e.symm, by rw [e2]; exact Ch.rd C Q.rr fun y hy e => Q.ro.apart (Gs := Ms) (fun n a b => a.2 b) y hy (by subst e; exact Q.var.rg Q.mt), fun z k hz g => ?_, by rw [e3]; exact Ch.ownR C Q.so fun y hy e => Q.stn (by rw [hy, e]), .inl Q.mt, .inl Q.mf, (F.ch C fun z hz => by rw [hbk] at hz; cases hz; exact hcl).mono fun n e => .inr e, (Q.ms.ch C Q.slt).mono fun n m => .inl m, Q.tf, fun e => ?_, fun e => ?_, Q.stn, Q.sf, fun y hy fy => ?_, fun n m => ?_, fun n m => ?_, fun n hn => Q.up n (by omega), fun p hp => ⟨Ch.rd C (Q.gu p hp).1 fun y hy e => (Q.gu p hp).2.apart (Gs := Ms) (fun n a b => a.2 b) y hy (by subst e; exact Q.var.rg Q.mt), fun z k hz g => ?_⟩⟩
  · rw [e1]
    refine ⟨G.eq, Ch.ownR C G.own fun y hy e => by rw [hbk] at hy; cases hy; omega, fun p hp => Ch.rd C (G.rd p hp) fun y hy e => ?_, fun p hp z k hz g => ?_⟩
    · subst e
      obtain ⟨k, g, f⟩ := Q.var.fam
      have := (G.off p hp _ k hy g).1
      omega
    · obtain ⟨k0, g0, e⟩ := C.2.2.2.2.1 z k ((G.rd p hp).blk_lt hz).1 g
      have ho := G.off p hp z k0 hz g0
      rw [e]
      exact ⟨Q0.up _ ho.1, fun m => m.elim (fun m => by have := Q0.ml _ m; have := ho.1; omega) ho.2⟩
  · have hz0 := (Q0.rr.blk_lt hz).1
    obtain ⟨k0, g0, e⟩ := C.2.2.2.2.1 z k (Q.rr.blk_lt hz).1 g
    have ho := Q.ro z k0 hz g0
    have hk := H.2 z k0 g0
    rw [e]
    exact ⟨ho.1, fun m => m.elim ho.2 fun m => by omega⟩
  · rw [hbk] at e; cases e; omega
  · rw [hbk] at e; cases e; have := Q0.fv.lt H0; omega
  · rw [hbk] at hy; cases hy
    obtain ⟨b, hb, k1, k2, g1, g2, e⟩ := fy
    obtain ⟨k10, g10, e10⟩ := C.2.2.2.2.1 cb k1 hcl g1
    obtain ⟨k20, g20, e20⟩ := C.2.2.2.2.1 b k2 (Q.slt b hb) g2
    have h1 := F cb k10 hbk g10
    have h2 := Q.ms b k20 hb g20
    have := Q0.ml _ h2
    omega
  · rcases m with m | m
    · have := Q0.ml n m; omega
    · omega
  · rcases m with m | m
    · exact Q.mF n m
    · exact Q0.up n (by omega)
  · have hz0 := ((Q0.gu p hp).1.blk_lt hz).1
    obtain ⟨k0, g0, e⟩ := C.2.2.2.2.1 z k ((Q.gu p hp).1.blk_lt hz).1 g
    have ho := (Q.gu p hp).2 z k0 hz g0
    have hk := H.2 z k0 g0
    rw [e]
    exact ⟨ho.1, fun m => m.elim ho.2 fun m => by omega⟩
theorem resize_ok {h : Heap} {Fs : Nat → Prop} {gs : List (Value × List Int)} {t : Nat} {nv : Value} {gr : Bool} {X : TX} {r c : Int} (P : PM h Fs gs t nv gr X) :
    ACalls prog 28 #[pt t, .int .i64 r, .int .i64 c] h (fun y h' => y = .tuple #[] ∧ PM h' Fs gs t nv gr (resizeX X r c) ∧ Ch (Rg Fs h) h h') := by
  refine acalls_of_W' func28 rfl (by kernel_rfl) (by kernel_rfl) (by simp [ntmps28]) ?_
  intro H
  obtain ⟨f, cv, sv, rv, ps, Ms, Q⟩ := P
  have PN := fun {a : Addr} => ptr_ne (a := a) underlying25
  simp only [wk, wt, wl, ↓reduceIte, Nat.reduceEqDiff, Nat.reduceAdd, Nat.zero_add, not_false_eq_true, not_true_eq_false, pt, PN]
  refine (blankG_ok (r := r) (c := c)).use ?_
  rintro _ h1 ⟨cb, ps', rfl, G1, F1, hcb, K1⟩
  obtain ⟨cv', hcv⟩ : ∃ cv, Value.slice (some ⟨cb, 0, none⟩) (blankL r c).length ((blankL r c).length + 1) = cv := ⟨_, rfl⟩
  have hbk : blkOf cv' = some cb := by rw [← hcv]; rfl
  have Q1 := Q.keeps H K1
  obtain ⟨h2, e2, V2, C2, z2⟩ := Q1.var.store (P := prog) (t := 38) (v := .agg #[.int .i64 (sizeR r), .int .i64 (sizeC c), cv', .int .i64 0, .int .i64 0]) (i := 0) (Ch.wf K1) asz38 (by simp [Value.cells, tF]) (by rw [← hcv]; simp [Value.cells, one])
  obtain ⟨h3, e3, V3, C3, z3⟩ := V2.store1 (P := prog) (t := 58) (v := .pointer none) (i := 7) (Ch.wf C2) asz58 (by simp [Value.cells, tF, over]) rfl
  have V4 : Var h3 t (tF (resizeX X r c) cv' f nv gr sv) := by
    have e : (over (tF X cv f nv gr sv) 0 (Value.agg #[.int .i64 (sizeR r), .int .i64 (sizeC c), cv', .int .i64 0, .int .i64 0]).cells.toList).set 7 (.pointer none) = tF (resizeX X r c) cv' f nv gr sv := by simp [Value.cells, tF, over, resizeX, lastV]
    rw [e] at V3; exact V3
  have C13 : Ch (fun y => y = t) h1 h3 := C2.then C3 fun y e => .inr e
  rw [hcv] at G1 F1
  simp only [wk, wt, wl, ↓reduceIte, Nat.reduceEqDiff, Nat.reduceAdd, Nat.zero_add, not_false_eq_true, not_true_eq_false, hcv, e2, e3]
  exact ⟨⟨_, _, _, _, _, _, Q.regrid H K1 G1 hbk F1 hcb C13 V4 rfl rfl rfl⟩, K1.rg.thenR (Q1.dirtyT C13)⟩
end Go.Proofs.YtefpalmihdbmiaaDoor.Am
end
section
/- The program's terminal: the contract of wipe, by a walk. -/
set_option linter.unusedSimpArgs false
set_option linter.unusedVariables false
set_option maxHeartbeats 4000000
set_option maxRecDepth 20000
namespace Go.Proofs.YtefpalmihdbmiaaDoor.Am
open Go Go.RowKit Go.Proofs.Tryd
theorem setB_len {l : List Cel} {f t : Nat} : (setB l f t).length = l.length := by simp [setB]
theorem setB_at {l : List Cel} {f t i : Nat} : (setB l f t)[i]? = (l[i]?).map fun c => if f ≤ i ∧ i < t then bl 0 else c := by simp [setB, List.getElem?_mapIdx]
theorem setB_nil {l : List Cel} {f : Nat} : setB l f f = l := by
  refine List.ext_getElem? fun i => ?_
  rw [setB_at]
  cases l[i]? with
  | none => rfl
  | some c => simp only [Option.map_some]; rw [if_neg (by omega)]
theorem setB_succ {l : List Cel} {f j : Nat} (h : f + j < l.length) : (setB l f (f + j)).set (f + j) (bl 0) = setB l f (f + (j + 1)) := by
  refine List.ext_getElem? fun i => ?_
  rw [List.getElem?_set, setB_at, setB_at, setB_len]
  by_cases hi : f + j = i
  · subst hi
    rw [if_pos rfl, if_pos h, List.getElem?_eq_getElem h]
    simp only [Option.map_some]; rw [if_pos (by omega)]
  · rw [if_neg hi]
    cases l[i]? with
    | none => rfl
    | some c =>
      simp only [Option.map_some]
      by_cases h1 : f ≤ i ∧ i < f + j
      · rw [if_pos h1, if_pos (by omega)]
      · rw [if_neg h1, if_neg (by omega)]
theorem getD_at {l : List Cel} {i : Nat} {c : Cel} (h : l[i]? = some c) {d : Cel} : l.getD i d = c := by simp [List.getD, h]
theorem wipe_ok {h : Heap} {Fs : Nat → Prop} {gs : List (Value × List Int)} {t : Nat} {nv : Value} {gr : Bool} {X : TX} {F T : Nat} (P : PM h Fs gs t nv gr X) (hT : T ≤ X.cells.length) (hl : X.cells.length ≤ 500000)
    (he : F < T → (X.cells.getD F (bl 0)).tx = [] → 0 < F) (hw : F < T → (X.cells.getD (T - 1) (bl 0)).wd = true → T < X.cells.length) :
    ACalls prog 63 #[pt t, .int .i64 F, .int .i64 T] h (fun y h' => y = .tuple #[] ∧ PM h' Fs gs t nv gr { X with cells := wipeL X.cells F T } ∧ Ch (Rg Fs h) h h') := by
  refine acalls_of_W' func63 rfl (by kernel_rfl) (by kernel_rfl) (by simp [ntmps63]) ?_
  intro H
  by_cases hft : F < T
  · have d1 : decide ((T : Int) ≤ (F : Int)) = false := decide_eq_false (by omega)
    obtain ⟨f, cv, sv, rv, ps, Ms, Q⟩ := P
    obtain ⟨l0, l1, l2, l3, l4, l5, l6, l7, l8, l9, l10, l11⟩ := Q.load
    obtain ⟨p, p1, p2, p3⟩ := Q.gp.at (i := F) (by omega)
    obtain ⟨q, q1, q2, q3⟩ := Q.gp.at (i := T - 1) (by omega)
    have IF := Q.gp.index (z := (F : Int)) (by omega) (by omega)
    have IT := Q.gp.index (z := (T : Int) - 1) (by omega) (by omega)
    simp only [Int.toNat_natCast, show ((T : Int) - 1).toNat = T - 1 by omega] at IF IT
    obtain ⟨a1, a2, a3, a4, a5⟩ := Q.gp.loads p1
    obtain ⟨b1, b2, b3, b4, b5⟩ := Q.gp.loads q1
    have LF := (Q.gp.rd p p3).len underlying44
    rw [getD_at p2] at he
    rw [getD_at q2] at hw
    obtain ⟨F', hF'⟩ : ∃ F', (if p.2.tx = [] then F - 1 else F) = F' := ⟨_, rfl⟩
    obtain ⟨T', hT'⟩ : ∃ T', (if q.2.wd = true then T + 1 else T) = T' := ⟨_, rfl⟩
    have hwl : wipeL X.cells F T = setB X.cells F' T' := by unfold wipeL; rw [if_pos hft, getD_at p2, getD_at q2, hF', hT']
    have hFT : F' ≤ T' ∧ T' ≤ X.cells.length ∧ F' ≤ F := by
      rw [← hF', ← hT']
      split <;> split <;> rename_i u1 u2
      · have := hw hft u2; omega
      · omega
      · have := hw hft u2; omega
      · omega
    rw [hwl]
    have S2 := Rd.slice2 Q.gp.own.1 underlying36 asz50 (q := .i64) (q' := .i64) (i := (F' : Int)) (j := (T' : Int)) (by omega) (by omega) (by rw [Q.gp.length]; omega)
    have LS := (Q.gp.own.1.part (L := F') (H := T') (by omega) (by rw [Q.gp.length]; omega)).len underlying36
    simp only [Int.toNat_natCast] at S2
    have wT : IntKind.i64.wrap ((T : Int) - 1) = (T : Int) - 1 := IntWalk.i64_in _ (by omega)
    by_cases u1 : p.2.tx = []
    · have d2 : decide ((p.2.tx.length : Int) = 0) = true := decide_eq_true (by rw [u1]; rfl)
      have hF0 := he hft u1
      rw [if_pos u1] at hF'
      have wF : IntKind.i64.wrap ((F : Int) - 1) = (F' : Int) := by rw [IntWalk.i64_in _ (by omega)]; omega
      by_cases u2 : q.2.wd = true
      · have hw2 := hw hft u2
        rw [if_pos u2] at hT'
        have wU : IntKind.i64.wrap ((T : Int) + 1) = (T' : Int) := by rw [IntWalk.i64_in _ (by omega)]; omega
        simp only [wk, wt, wl, ↓reduceIte, Nat.reduceEqDiff, Nat.reduceAdd, Nat.zero_add, not_false_eq_true, not_true_eq_false, pt, d1, l2, IF, a1, a5, LF, d2, wF, wT, IT, b3, u2, wU, S2, LS]
        refine W_loop (fun tm hh => tm 0 = pt t ∧ tm 1 = .int .i64 (F' : Int) ∧ tm 43 = .int .i64 ((T' - F' : Nat) : Int) ∧ Ch (Rg Fs h) h hh ∧ ∃ (j : Nat) (ps : List PC), tm 44 = .int .i64 (j : Int) ∧ j ≤ T' - F' ∧ PT hh Fs gs t nv gr { X with cells := setB X.cells F' (F' + j) } f cv sv rv ps Ms)
          (fun tm _ => (((T' - F' : Nat) : Int) - intOf (tm 44)).toNat) ⟨(by first | rfl | (simp only [wk, wt, wl, ↓reduceIte, Nat.reduceEqDiff, Nat.reduceAdd, Nat.zero_add, not_false_eq_true, not_true_eq_false]; done) | (simp only [wk, wt, wl, ↓reduceIte, Nat.reduceEqDiff, Nat.reduceAdd, Nat.zero_add, not_false_eq_true, not_true_eq_false]; rfl)), (by first | rfl | (simp only [wk, wt, wl, ↓reduceIte, Nat.reduceEqDiff, Nat.reduceAdd, Nat.zero_add, not_false_eq_true, not_true_eq_false]; done) | (simp only [wk, wt, wl, ↓reduceIte, Nat.reduceEqDiff, Nat.reduceAdd, Nat.zero_add, not_false_eq_true, not_true_eq_false]; rfl)), (by first | rfl | (simp only [wk, wt, wl, ↓reduceIte, Nat.reduceEqDiff, Nat.reduceAdd, Nat.zero_add, not_false_eq_true, not_true_eq_false]; done) | (simp only [wk, wt, wl, ↓reduceIte, Nat.reduceEqDiff, Nat.reduceAdd, Nat.zero_add, not_false_eq_true, not_true_eq_false]; rfl)), (Keeps.refl H).rg, 0, ps, (by first | rfl | (simp only [wk, wt, wl, ↓reduceIte, Nat.reduceEqDiff, Nat.reduceAdd, Nat.zero_add, not_false_eq_true, not_true_eq_false]; done) | (simp only [wk, wt, wl, ↓reduceIte, Nat.reduceEqDiff, Nat.reduceAdd, Nat.zero_add, not_false_eq_true, not_true_eq_false]; rfl)), by omega, by rw [Nat.add_zero, setB_nil]; exact Q⟩ ?_
        rintro tm hh ⟨t0, t1, t43, C, j, ps', t44, hj, Q'⟩
        simp only [wk, wt, wl, ↓reduceIte, Nat.reduceEqDiff, Nat.reduceAdd, Nat.zero_add, not_false_eq_true, not_true_eq_false, t0, t1, t43, t44]
        refine condK_dec (fun hd => ?_) (fun hd => ?_)
        · obtain ⟨_, _, m2, _⟩ := Q'.load
          have N1 := Keeps.new (Ch.wf C) 21 [.int .i32 32]
          have R1 : RdI prog (hh.new 21 [.int .i32 32]) .i32 (.slice (some ⟨hh.size, 0, none⟩) 1 2) [32] := rdI_new (Ch.wf C) (xs := [32])
          have Q1 := Q'.keeps (Ch.wf C) N1
          have hlb : (setB X.cells F' (F' + j)).length = X.cells.length := setB_len
          have IX := Q1.gp.index (z := ((F' + j : Nat) : Int)) (by omega) (by show ((F' + j : Nat) : Int) < ((setB X.cells F' (F' + j)).length : Int); rw [hlb]; omega)
          simp only [Int.toNat_natCast] at IX
          obtain ⟨h2, e2, G2, C2, z2⟩ := Q1.gp.set (c := bl 0) (Ch.wf N1) Q1.mc (i := F' + j) (by show F' + j < (setB X.cells F' (F' + j)).length; rw [hlb]; omega) R1 (Q'.fresh N1 blk_new)
          simp only [setB_succ (show F' + j < X.cells.length by omega)] at G2
          have Q2 := Q1.cells (Ch.wf N1) C2 G2
          have wj : IntKind.i64.wrap ((F' : Int) + (j : Int)) = ((F' + j : Nat) : Int) := by rw [IntWalk.i64_in _ (by omega)]; omega
          have wn : IntKind.i64.wrap ((j : Int) + 1) = ((j + 1 : Nat) : Int) := by rw [IntWalk.i64_in _ (by omega)]; omega
          simp only [bl] at e2
          simp only [wk, wt, wl, ↓reduceIte, Nat.reduceEqDiff, Nat.reduceAdd, Nat.zero_add, not_false_eq_true, not_true_eq_false, t0, t1, t43, t44, pt, m2, wj, build_cell1, IX, e2, wn, intOf_int]
          exact ⟨⟨(C.thenR N1.rg).thenR (Q1.dirtyC C2), j + 1, _, rfl, by omega, Q2⟩, by omega⟩
        · obtain rfl : j = T' - F' := by omega
          rw [show F' + (T' - F') = T' by omega] at Q'
          simp only [wk, wt, wl, ↓reduceIte, Nat.reduceEqDiff, Nat.reduceAdd, Nat.zero_add, not_false_eq_true, not_true_eq_false]
          exact ⟨⟨_, _, _, _, _, _, Q'⟩, C⟩
      · have u2 : q.2.wd = false := by simpa using u2
        rw [u2] at hT'
        obtain rfl : T' = T := by simpa using hT'.symm
        simp only [wk, wt, wl, ↓reduceIte, Nat.reduceEqDiff, Nat.reduceAdd, Nat.zero_add, not_false_eq_true, not_true_eq_false, pt, d1, l2, IF, a1, a5, LF, d2, wF, wT, IT, b3, u2, S2, LS]
        refine W_loop (fun tm hh => tm 0 = pt t ∧ tm 1 = .int .i64 (F' : Int) ∧ tm 43 = .int .i64 ((T' - F' : Nat) : Int) ∧ Ch (Rg Fs h) h hh ∧ ∃ (j : Nat) (ps : List PC), tm 44 = .int .i64 (j : Int) ∧ j ≤ T' - F' ∧ PT hh Fs gs t nv gr { X with cells := setB X.cells F' (F' + j) } f cv sv rv ps Ms)
          (fun tm _ => (((T' - F' : Nat) : Int) - intOf (tm 44)).toNat) ⟨(by first | rfl | (simp only [wk, wt, wl, ↓reduceIte, Nat.reduceEqDiff, Nat.reduceAdd, Nat.zero_add, not_false_eq_true, not_true_eq_false]; done) | (simp only [wk, wt, wl, ↓reduceIte, Nat.reduceEqDiff, Nat.reduceAdd, Nat.zero_add, not_false_eq_true, not_true_eq_false]; rfl)), (by first | rfl | (simp only [wk, wt, wl, ↓reduceIte, Nat.reduceEqDiff, Nat.reduceAdd, Nat.zero_add, not_false_eq_true, not_true_eq_false]; done) | (simp only [wk, wt, wl, ↓reduceIte, Nat.reduceEqDiff, Nat.reduceAdd, Nat.zero_add, not_false_eq_true, not_true_eq_false]; rfl)), (by first | rfl | (simp only [wk, wt, wl, ↓reduceIte, Nat.reduceEqDiff, Nat.reduceAdd, Nat.zero_add, not_false_eq_true, not_true_eq_false]; done) | (simp only [wk, wt, wl, ↓reduceIte, Nat.reduceEqDiff, Nat.reduceAdd, Nat.zero_add, not_false_eq_true, not_true_eq_false]; rfl)), (Keeps.refl H).rg, 0, ps, (by first | rfl | (simp only [wk, wt, wl, ↓reduceIte, Nat.reduceEqDiff, Nat.reduceAdd, Nat.zero_add, not_false_eq_true, not_true_eq_false]; done) | (simp only [wk, wt, wl, ↓reduceIte, Nat.reduceEqDiff, Nat.reduceAdd, Nat.zero_add, not_false_eq_true, not_true_eq_false]; rfl)), by omega, by rw [Nat.add_zero, setB_nil]; exact Q⟩ ?_
        rintro tm hh ⟨t0, t1, t43, C, j, ps', t44, hj, Q'⟩
        simp only [wk, wt, wl, ↓reduceIte, Nat.reduceEqDiff, Nat.reduceAdd, Nat.zero_add, not_false_eq_true, not_true_eq_false, t0, t1, t43, t44]
        refine condK_dec (fun hd => ?_) (fun hd => ?_)
        · obtain ⟨_, _, m2, _⟩ := Q'.load
          have N1 := Keeps.new (Ch.wf C) 21 [.int .i32 32]
          have R1 : RdI prog (hh.new 21 [.int .i32 32]) .i32 (.slice (some ⟨hh.size, 0, none⟩) 1 2) [32] := rdI_new (Ch.wf C) (xs := [32])
          have Q1 := Q'.keeps (Ch.wf C) N1
          have hlb : (setB X.cells F' (F' + j)).length = X.cells.length := setB_len
          have IX := Q1.gp.index (z := ((F' + j : Nat) : Int)) (by omega) (by show ((F' + j : Nat) : Int) < ((setB X.cells F' (F' + j)).length : Int); rw [hlb]; omega)
          simp only [Int.toNat_natCast] at IX
          obtain ⟨h2, e2, G2, C2, z2⟩ := Q1.gp.set (c := bl 0) (Ch.wf N1) Q1.mc (i := F' + j) (by show F' + j < (setB X.cells F' (F' + j)).length; rw [hlb]; omega) R1 (Q'.fresh N1 blk_new)
          simp only [setB_succ (show F' + j < X.cells.length by omega)] at G2
          have Q2 := Q1.cells (Ch.wf N1) C2 G2
          have wj : IntKind.i64.wrap ((F' : Int) + (j : Int)) = ((F' + j : Nat) : Int) := by rw [IntWalk.i64_in _ (by omega)]; omega
          have wn : IntKind.i64.wrap ((j : Int) + 1) = ((j + 1 : Nat) : Int) := by rw [IntWalk.i64_in _ (by omega)]; omega
          simp only [bl] at e2
          simp only [wk, wt, wl, ↓reduceIte, Nat.reduceEqDiff, Nat.reduceAdd, Nat.zero_add, not_false_eq_true, not_true_eq_false, t0, t1, t43, t44, pt, m2, wj, build_cell1, IX, e2, wn, intOf_int]
          exact ⟨⟨(C.thenR N1.rg).thenR (Q1.dirtyC C2), j + 1, _, rfl, by omega, Q2⟩, by omega⟩
        · obtain rfl : j = T' - F' := by omega
          rw [show F' + (T' - F') = T' by omega] at Q'
          simp only [wk, wt, wl, ↓reduceIte, Nat.reduceEqDiff, Nat.reduceAdd, Nat.zero_add, not_false_eq_true, not_true_eq_false]
          exact ⟨⟨_, _, _, _, _, _, Q'⟩, C⟩
    · have d2 : decide ((p.2.tx.length : Int) = 0) = false := decide_eq_false fun e => u1 (List.eq_nil_of_length_eq_zero (by omega))
      rw [if_neg u1] at hF'
      obtain rfl : F' = F := hF'.symm
      by_cases u2 : q.2.wd = true
      · have hw2 := hw hft u2
        rw [if_pos u2] at hT'
        have wU : IntKind.i64.wrap ((T : Int) + 1) = (T' : Int) := by rw [IntWalk.i64_in _ (by omega)]; omega
        simp only [wk, wt, wl, ↓reduceIte, Nat.reduceEqDiff, Nat.reduceAdd, Nat.zero_add, not_false_eq_true, not_true_eq_false, pt, d1, l2, IF, a1, a5, LF, d2, wT, IT, b3, u2, wU, S2, LS]
        refine W_loop (fun tm hh => tm 0 = pt t ∧ tm 1 = .int .i64 (F' : Int) ∧ tm 43 = .int .i64 ((T' - F' : Nat) : Int) ∧ Ch (Rg Fs h) h hh ∧ ∃ (j : Nat) (ps : List PC), tm 44 = .int .i64 (j : Int) ∧ j ≤ T' - F' ∧ PT hh Fs gs t nv gr { X with cells := setB X.cells F' (F' + j) } f cv sv rv ps Ms)
          (fun tm _ => (((T' - F' : Nat) : Int) - intOf (tm 44)).toNat) ⟨(by first | rfl | (simp only [wk, wt, wl, ↓reduceIte, Nat.reduceEqDiff, Nat.reduceAdd, Nat.zero_add, not_false_eq_true, not_true_eq_false]; done) | (simp only [wk, wt, wl, ↓reduceIte, Nat.reduceEqDiff, Nat.reduceAdd, Nat.zero_add, not_false_eq_true, not_true_eq_false]; rfl)), (by first | rfl | (simp only [wk, wt, wl, ↓reduceIte, Nat.reduceEqDiff, Nat.reduceAdd, Nat.zero_add, not_false_eq_true, not_true_eq_false]; done) | (simp only [wk, wt, wl, ↓reduceIte, Nat.reduceEqDiff, Nat.reduceAdd, Nat.zero_add, not_false_eq_true, not_true_eq_false]; rfl)), (by first | rfl | (simp only [wk, wt, wl, ↓reduceIte, Nat.reduceEqDiff, Nat.reduceAdd, Nat.zero_add, not_false_eq_true, not_true_eq_false]; done) | (simp only [wk, wt, wl, ↓reduceIte, Nat.reduceEqDiff, Nat.reduceAdd, Nat.zero_add, not_false_eq_true, not_true_eq_false]; rfl)), (Keeps.refl H).rg, 0, ps, (by first | rfl | (simp only [wk, wt, wl, ↓reduceIte, Nat.reduceEqDiff, Nat.reduceAdd, Nat.zero_add, not_false_eq_true, not_true_eq_false]; done) | (simp only [wk, wt, wl, ↓reduceIte, Nat.reduceEqDiff, Nat.reduceAdd, Nat.zero_add, not_false_eq_true, not_true_eq_false]; rfl)), by omega, by rw [Nat.add_zero, setB_nil]; exact Q⟩ ?_
        rintro tm hh ⟨t0, t1, t43, C, j, ps', t44, hj, Q'⟩
        simp only [wk, wt, wl, ↓reduceIte, Nat.reduceEqDiff, Nat.reduceAdd, Nat.zero_add, not_false_eq_true, not_true_eq_false, t0, t1, t43, t44]
        refine condK_dec (fun hd => ?_) (fun hd => ?_)
        · obtain ⟨_, _, m2, _⟩ := Q'.load
          have N1 := Keeps.new (Ch.wf C) 21 [.int .i32 32]
          have R1 : RdI prog (hh.new 21 [.int .i32 32]) .i32 (.slice (some ⟨hh.size, 0, none⟩) 1 2) [32] := rdI_new (Ch.wf C) (xs := [32])
          have Q1 := Q'.keeps (Ch.wf C) N1
          have hlb : (setB X.cells F' (F' + j)).length = X.cells.length := setB_len
          have IX := Q1.gp.index (z := ((F' + j : Nat) : Int)) (by omega) (by show ((F' + j : Nat) : Int) < ((setB X.cells F' (F' + j)).length : Int); rw [hlb]; omega)
          simp only [Int.toNat_natCast] at IX
          obtain ⟨h2, e2, G2, C2, z2⟩ := Q1.gp.set (c := bl 0) (Ch.wf N1) Q1.mc (i := F' + j) (by show F' + j < (setB X.cells F' (F' + j)).length; rw [hlb]; omega) R1 (Q'.fresh N1 blk_new)
          simp only [setB_succ (show F' + j < X.cells.length by omega)] at G2
          have Q2 := Q1.cells (Ch.wf N1) C2 G2
          have wj : IntKind.i64.wrap ((F' : Int) + (j : Int)) = ((F' + j : Nat) : Int) := by rw [IntWalk.i64_in _ (by omega)]; omega
          have wn : IntKind.i64.wrap ((j : Int) + 1) = ((j + 1 : Nat) : Int) := by rw [IntWalk.i64_in _ (by omega)]; omega
          simp only [bl] at e2
          simp only [wk, wt, wl, ↓reduceIte, Nat.reduceEqDiff, Nat.reduceAdd, Nat.zero_add, not_false_eq_true, not_true_eq_false, t0, t1, t43, t44, pt, m2, wj, build_cell1, IX, e2, wn, intOf_int]
          exact ⟨⟨(C.thenR N1.rg).thenR (Q1.dirtyC C2), j + 1, _, rfl, by omega, Q2⟩, by omega⟩
        · obtain rfl : j = T' - F' := by omega
          rw [show F' + (T' - F') = T' by omega] at Q'
          simp only [wk, wt, wl, ↓reduceIte, Nat.reduceEqDiff, Nat.reduceAdd, Nat.zero_add, not_false_eq_true, not_true_eq_false]
          exact ⟨⟨_, _, _, _, _, _, Q'⟩, C⟩
      · have u2 : q.2.wd = false := by simpa using u2
        rw [u2] at hT'
        obtain rfl : T' = T := by simpa using hT'.symm
        simp only [wk, wt, wl, ↓reduceIte, Nat.reduceEqDiff, Nat.reduceAdd, Nat.zero_add, not_false_eq_true, not_true_eq_false, pt, d1, l2, IF, a1, a5, LF, d2, wT, IT, b3, u2, S2, LS]
        refine W_loop (fun tm hh => tm 0 = pt t ∧ tm 1 = .int .i64 (F' : Int) ∧ tm 43 = .int .i64 ((T' - F' : Nat) : Int) ∧ Ch (Rg Fs h) h hh ∧ ∃ (j : Nat) (ps : List PC), tm 44 = .int .i64 (j : Int) ∧ j ≤ T' - F' ∧ PT hh Fs gs t nv gr { X with cells := setB X.cells F' (F' + j) } f cv sv rv ps Ms)
          (fun tm _ => (((T' - F' : Nat) : Int) - intOf (tm 44)).toNat) ⟨(by first | rfl | (simp only [wk, wt, wl, ↓reduceIte, Nat.reduceEqDiff, Nat.reduceAdd, Nat.zero_add, not_false_eq_true, not_true_eq_false]; done) | (simp only [wk, wt, wl, ↓reduceIte, Nat.reduceEqDiff, Nat.reduceAdd, Nat.zero_add, not_false_eq_true, not_true_eq_false]; rfl)), (by first | rfl | (simp only [wk, wt, wl, ↓reduceIte, Nat.reduceEqDiff, Nat.reduceAdd, Nat.zero_add, not_false_eq_true, not_true_eq_false]; done) | (simp only [wk, wt, wl, ↓reduceIte, Nat.reduceEqDiff, Nat.reduceAdd, Nat.zero_add, not_false_eq_true, not_true_eq_false]; rfl)), (by first | rfl | (simp only [wk, wt, wl, ↓reduceIte, Nat.reduceEqDiff, Nat.reduceAdd, Nat.zero_add, not_false_eq_true, not_true_eq_false]; done) | (simp only [wk, wt, wl, ↓reduceIte, Nat.reduceEqDiff, Nat.reduceAdd, Nat.zero_add, not_false_eq_true, not_true_eq_false]; rfl)), (Keeps.refl H).rg, 0, ps, (by first | rfl | (simp only [wk, wt, wl, ↓reduceIte, Nat.reduceEqDiff, Nat.reduceAdd, Nat.zero_add, not_false_eq_true, not_true_eq_false]; done) | (simp only [wk, wt, wl, ↓reduceIte, Nat.reduceEqDiff, Nat.reduceAdd, Nat.zero_add, not_false_eq_true, not_true_eq_false]; rfl)), by omega, by rw [Nat.add_zero, setB_nil]; exact Q⟩ ?_
        rintro tm hh ⟨t0, t1, t43, C, j, ps', t44, hj, Q'⟩
        simp only [wk, wt, wl, ↓reduceIte, Nat.reduceEqDiff, Nat.reduceAdd, Nat.zero_add, not_false_eq_true, not_true_eq_false, t0, t1, t43, t44]
        refine condK_dec (fun hd => ?_) (fun hd => ?_)
        · obtain ⟨_, _, m2, _⟩ := Q'.load
          have N1 := Keeps.new (Ch.wf C) 21 [.int .i32 32]
          have R1 : RdI prog (hh.new 21 [.int .i32 32]) .i32 (.slice (some ⟨hh.size, 0, none⟩) 1 2) [32] := rdI_new (Ch.wf C) (xs := [32])
          have Q1 := Q'.keeps (Ch.wf C) N1
          have hlb : (setB X.cells F' (F' + j)).length = X.cells.length := setB_len
          have IX := Q1.gp.index (z := ((F' + j : Nat) : Int)) (by omega) (by show ((F' + j : Nat) : Int) < ((setB X.cells F' (F' + j)).length : Int); rw [hlb]; omega)
          simp only [Int.toNat_natCast] at IX
          obtain ⟨h2, e2, G2, C2, z2⟩ := Q1.gp.set (c := bl 0) (Ch.wf N1) Q1.mc (i := F' + j) (by show F' + j < (setB X.cells F' (F' + j)).length; rw [hlb]; omega) R1 (Q'.fresh N1 blk_new)
          simp only [setB_succ (show F' + j < X.cells.length by omega)] at G2
          have Q2 := Q1.cells (Ch.wf N1) C2 G2
          have wj : IntKind.i64.wrap ((F' : Int) + (j : Int)) = ((F' + j : Nat) : Int) := by rw [IntWalk.i64_in _ (by omega)]; omega
          have wn : IntKind.i64.wrap ((j : Int) + 1) = ((j + 1 : Nat) : Int) := by rw [IntWalk.i64_in _ (by omega)]; omega
          simp only [bl] at e2
          simp only [wk, wt, wl, ↓reduceIte, Nat.reduceEqDiff, Nat.reduceAdd, Nat.zero_add, not_false_eq_true, not_true_eq_false, t0, t1, t43, t44, pt, m2, wj, build_cell1, IX, e2, wn, intOf_int]
          exact ⟨⟨(C.thenR N1.rg).thenR (Q1.dirtyC C2), j + 1, _, rfl, by omega, Q2⟩, by omega⟩
        · obtain rfl : j = T' - F' := by omega
          rw [show F' + (T' - F') = T' by omega] at Q'
          simp only [wk, wt, wl, ↓reduceIte, Nat.reduceEqDiff, Nat.reduceAdd, Nat.zero_add, not_false_eq_true, not_true_eq_false]
          exact ⟨⟨_, _, _, _, _, _, Q'⟩, C⟩
  · have d1 : decide ((T : Int) ≤ (F : Int)) = true := decide_eq_true (by omega)
    have hwl : wipeL X.cells F T = X.cells := by unfold wipeL; rw [if_neg hft]
    rw [hwl]
    simp only [wk, wt, wl, ↓reduceIte, Nat.reduceEqDiff, Nat.reduceAdd, Nat.zero_add, not_false_eq_true, not_true_eq_false, d1]
    exact ⟨P, (Keeps.refl H).rg⟩
end Go.Proofs.YtefpalmihdbmiaaDoor.Am
end
section
/- Cells whose fields are written; invariants of a terminal in plain terms, as far as walks need them. -/
set_option linter.unusedSimpArgs false
set_option linter.unusedVariables false
set_option maxHeartbeats 4000000
set_option maxRecDepth 20000
namespace Go.Proofs.YtefpalmihdbmiaaDoor.Am
open Go Go.RowKit Go.Proofs.Tryd
theorem fm_put {α : Type} {s : Nat} {c : α → List Value} (hc : ∀ x, (c x).length = s) {l : List α} {i j : Nat} {x y : α} {v : Value} (hx : l[i]? = some x) (hj : j < s) (hy : c y = (c x).set j v) :
    over (l.flatMap c) (i * s + j) [v] = (l.set i y).flatMap c := by
  have hi := (List.getElem?_eq_some_iff.1 hx).1
  have hle : (i + 1) * s ≤ l.length * s := Nat.mul_le_mul_right s hi
  rw [Nat.add_mul, Nat.one_mul] at hle
  rw [← fm_over hc hi]
  refine List.ext_getElem? fun n => ?_
  rw [over_get (by rw [fm_len hc]; simp; omega), over_get (by rw [fm_len hc, hc]; omega)]
  by_cases h1 : i * s ≤ n ∧ n < i * s + (c y).length
  · rw [if_pos h1, hy]
    rw [hc] at h1
    have hat := fm_at hc hx (j := n - i * s) (by omega)
    rw [show i * s + (n - i * s) = n by omega] at hat
    by_cases h2 : i * s + j ≤ n ∧ n < i * s + j + [v].length
    · rw [if_pos h2]
      simp only [List.length_singleton] at h2
      have hn : n = i * s + j := by omega
      subst hn
      rw [show i * s + j - (i * s + j) = 0 by omega, show i * s + j - i * s = j by omega, List.getElem?_set]
      simp [hc, hj]
    · rw [if_neg h2, hat, List.getElem?_set]
      simp only [List.length_singleton] at h2
      rw [if_neg (by omega)]
  · rw [if_neg h1, if_neg (by rw [hc] at h1; simp only [List.length_singleton]; omega)]
theorem GP.fld {h : Heap} {Fs Ms : Nat → Prop} {cv v : Value} {l : List Cel} {ps : List PC} {i j : Nat} {p q : PC} {t : TypeId} (H : Wf h) (G : GP h Fs Ms cv l ps) (hM : Fam h Ms cv) (hp : ps[i]? = some p) (hj : j < 3) (hs : asz prog t = some 1) (h1 : one v = true) (hq : cC q = (cC p).set j v)
    (ht : RdI prog h .i32 q.1 q.2.tx) (ho : Fam h (Off Fs Ms) q.1) :
    ∃ h', storeV prog h t (.pointer (some ⟨(eltA cv 3 i).block, (eltA cv 3 i).off + j, none⟩)) v = some (undef, h') ∧ GP h' Fs Ms cv (l.set i q.2) (ps.set i q) ∧ Ch (FamV h cv) h h' ∧ h'.size = h.size := by
  have hi := (List.getElem?_eq_some_iff.1 hp).1
  obtain ⟨a0, cc, e0⟩ := G.own.1.cell (by omega)
  have ea : (eltA cv 3 i) = ⟨a0.block, a0.off + i * 3, none⟩ := by rw [e0]; rfl
  have hle : (i + 1) * 3 ≤ ps.length * 3 := Nat.mul_le_mul_right 3 hi
  obtain ⟨h', e, O, C, z, _⟩ := G.own.put H (i := i * 3 + j) (vs := [v]) (a := ⟨a0.block, a0.off + (i * 3 + j), none⟩) ⟨a0, cc, e0, rfl⟩ (by simp; omega) (by simp [h1])
  have hls : ps.length = (ps.set i q).length := List.length_set.symm
  rw [fm_put cC_len hp hj hq, hls] at O
  have ap : ∀ v xs, RdI prog h .i32 v xs → Fam h (Off Fs Ms) v → RdI prog h' .i32 v xs ∧ Fam h' (Off Fs Ms) v := fun v xs R F =>
    ⟨Ch.rd C R fun y hy d => F.apart (Gs := Ms) (fun n a b => a.2 b) y hy (FamV.rg hM d), F.ch C fun z hz => (R.blk_lt hz).1⟩
  have key : ∀ p, p ∈ ps.set i q → RdI prog h' .i32 p.1 p.2.tx ∧ Fam h' (Off Fs Ms) p.1 := fun p hp => by
    rcases List.mem_or_eq_of_mem_set hp with hp | rfl
    · exact ap _ _ (G.rd p hp) (G.off p hp)
    · exact ap _ _ ht ho
  refine ⟨h', ?_, ⟨by rw [List.map_set, G.eq], O, fun p hp => (key p hp).1, fun p hp => (key p hp).2⟩, C, z⟩
  rw [ea, storeV_over (by rw [one_cells h1]; exact hs), one_cells h1]
  rw [show a0.off + i * 3 + j = a0.off + (i * 3 + j) by omega]
  simp only [List.toList_toArray] at e ⊢
  rw [e]; rfl
end Go.Proofs.YtefpalmihdbmiaaDoor.Am
end
section
/- The program's terminal: the contract of put, by a walk. -/
set_option linter.unusedSimpArgs false
set_option linter.unusedVariables false
set_option maxHeartbeats 4000000
set_option maxRecDepth 20000
namespace Go.Proofs.YtefpalmihdbmiaaDoor.Am
open Go Go.RowKit Go.Proofs.Tryd
def clipV : Value → Value
  | .slice (some a) n _ => .slice (some a) n (n + 1)
  | _ => .slice none 0 0
theorem clip_own {v : Value} {xs : List Int} {h : Heap} (R : RdI prog h .i32 v xs) : Own prog h.size h 1 (clipV v) xs.length (xs.map (Value.int .i32)) ∧ blkOf (clipV v) = blkOf v := by
  obtain ⟨hl, h2⟩ := R
  rcases h2 with ⟨h0, rfl | rfl⟩ | ⟨b, o, c, k, rfl, hb, hk, hlv, ha, ho, hc⟩
  · have : xs = [] := List.eq_nil_of_length_eq_zero h0
    subst this
    exact ⟨Own.nil0, rfl⟩
  · have : xs = [] := List.eq_nil_of_length_eq_zero h0
    subst this
    exact ⟨Own.nil0, rfl⟩
  · exact ⟨⟨⟨hl, .inr ⟨b, o, xs.length + 1, k, rfl, hb, hk, hlv, ha, ho, hc⟩⟩, .inr (.inl ⟨_, rfl⟩)⟩, rfl⟩
theorem body_clip : hasBody prog 62 = true := by kernel_rfl
theorem call_clip {all : Array Oper} {Q : Exit → Tm → Heap → Prop} {rest : List Oper} {tm : Tm} {h : Heap} {d : Option Tmp} {ty : TypeId} {pos : String} {aft : Array Edge} {args : Array Operand} {ts : Array TypeId} :
    aops prog all Q ({ dst := d, op := .call { callee := .value (.func 62), args := args, argTypes := ts }, type := ty, pos := pos, after := aft, guard := none } :: rest) tm h = ACallsX prog 62 (args.map (ev tm)) h (nextH prog all Q rest tm d) (panicK Q tm) := aops_call body_clip
theorem clipR_ok {v : Value} {xs : List Int} {h : Heap} (R : RdI prog h .i32 v xs) : ACalls prog 62 #[v] h (fun y h' => y = clipV v ∧ h' = h) := by
  refine acalls_of_W func62 rfl (by kernel_rfl) (by kernel_rfl) (by simp [ntmps62]) ?_
  simp only [wk, wt, wl, ↓reduceIte, Nat.reduceEqDiff, Nat.reduceAdd, Nat.zero_add, not_false_eq_true, not_true_eq_false, R.len underlying44]
  obtain ⟨hl, h2⟩ := R
  rcases h2 with ⟨h0, rfl | rfl⟩ | ⟨b, o, c, k, rfl, hb, hk, hlv, ha, ho, hc⟩
  · have : xs = [] := List.eq_nil_of_length_eq_zero h0
    subst this
    have e : aslice prog h 44 (.slice none 0 0) none (some (.int .i64 ((([] : List Int).length : Nat) : Int))) (some (.int .i64 ((([] : List Int).length : Nat) : Int))) = some (.slice none 0 0) := by
      simp [aslice, underlying44, asz21, boundOf]
    rw [e]
    simp only [wk, wt, wl, ↓reduceIte, Nat.reduceEqDiff, Nat.reduceAdd, Nat.zero_add, not_false_eq_true, not_true_eq_false, clipV]
    all_goals exact ⟨rfl, trivial⟩
  · have : xs = [] := List.eq_nil_of_length_eq_zero h0
    subst this
    have e : aslice prog h 44 (.slice none 0 1) none (some (.int .i64 ((([] : List Int).length : Nat) : Int))) (some (.int .i64 ((([] : List Int).length : Nat) : Int))) = some (.slice none 0 0) := by
      simp [aslice, underlying44, asz21, boundOf]
    rw [e]
    simp only [wk, wt, wl, ↓reduceIte, Nat.reduceEqDiff, Nat.reduceAdd, Nat.zero_add, not_false_eq_true, not_true_eq_false, clipV]
    all_goals exact ⟨rfl, trivial⟩
  · have hm : (xs.length : Int) ≤ ((if c = 0 then xs.length else max xs.length (c - 1) : Nat) : Int) := by split <;> omega
    have e : aslice prog h 44 (.slice (some ⟨b, o, none⟩) xs.length c) none (some (.int .i64 (xs.length : Int))) (some (.int .i64 (xs.length : Int))) = some (.slice (some ⟨b, o, none⟩) xs.length (xs.length + 1)) := by
      simp [aslice, underlying44, asz21, hk, ha, boundOf, hm]
    rw [e]
    simp only [wk, wt, wl, ↓reduceIte, Nat.reduceEqDiff, Nat.reduceAdd, Nat.zero_add, not_false_eq_true, not_true_eq_false, clipV]
    all_goals exact ⟨rfl, trivial⟩
theorem show_cases (r : Int) : showL r = [r] ∨ (showL r ≠ [r] ∧ (showL r).length ≠ 1) ∨ ∃ x, showL r = [x] ∧ x ≠ r := by
  cases h : showL r with
  | nil => exact .inr (.inl ⟨by simp, by simp⟩)
  | cons x l =>
    cases l with
    | nil =>
      by_cases e : x = r
      · exact .inl (by rw [e])
      · exact .inr (.inr ⟨x, rfl, e⟩)
    | cons y l => exact .inr (.inl ⟨by simp, by simp⟩)
/-- The cursor's row's first cell. -/
theorem Inv.rowA {X : TX} (I : Inv X) : ∃ A : Nat, X.row * X.cols = (A : Int) ∧ (A : Int) + X.cols ≤ (X.cells.length : Int) ∧ X.cells.length ≤ 500000 ∧ 0 ≤ X.rows * X.cols := by
  have hr := I.r; have hc := I.c; have hw := I.row
  have h0 : 0 ≤ X.row * X.cols := Int.mul_nonneg (by omega) (by omega)
  have h1 : (X.row + 1) * X.cols ≤ X.rows * X.cols := Int.mul_le_mul_of_nonneg_right (by omega) (by omega)
  have h2 : X.rows * X.cols ≤ 500 * 1000 := Int.mul_le_mul (by omega) (by omega) (by omega) (by omega)
  have h3 := I.n
  rw [Int.add_mul, Int.one_mul] at h1
  exact ⟨(X.row * X.cols).toNat, by omega, by omega, by omega, by omega⟩
theorem widthZ_le (r : Int) : 0 ≤ widthZ r ∧ widthZ r ≤ 2 := by
  unfold widthZ
  split
  · omega
  · split <;> omega
theorem put_bad {h : Heap} {Fs : Nat → Prop} {gs : List (Value × List Int)} {t : Nat} {nv : Value} {gr : Bool} {X : TX} {r : Int} (P : PM h Fs gs t nv gr X) (hr : isR r) (hs : showL r ≠ [r]) :
    ACalls prog 48 #[pt t, .int .i32 r] h (fun y h' => y = .tuple #[] ∧ PM h' Fs gs t nv gr (putX X r) ∧ Ch (Rg Fs h) h h') := by
  refine acalls_of_W' func48 rfl (by kernel_rfl) (by kernel_rfl) (by simp [ntmps48]) ?_
  intro H
  obtain ⟨f, cv, sv, rv, ps, Ms, Q⟩ := P
  simp only [wk, wt, wl, ↓reduceIte, Nat.reduceEqDiff, Nat.reduceAdd, Nat.zero_add, not_false_eq_true, not_true_eq_false]
  refine (show_ok hr).use_pure ?_
  have N1 := Keeps.new H 21 ((showL r).map (Value.int .i32))
  have R1 : RdI prog (h.new 21 ((showL r).map (Value.int .i32))) .i32 (.slice (some ⟨h.size, 0, none⟩) (showL r).length ((showL r).length + 1)) (showL r) := rdI_new H
  have Q1 := Q.keeps H N1
  obtain ⟨h2, e2, V2, C2, z2⟩ := Q1.var.store1 (P := prog) (t := 58) (v := .pointer none) (i := 7) (Ch.wf N1) asz58 (by simp [tF]) rfl
  have Q2 : PT h2 Fs gs t nv gr { X with last := none } f cv sv rv ps Ms := Q1.own (Ch.wf N1) C2 V2 rfl rfl rfl
  have hp : putX X r = { X with last := none } := by unfold putX; rw [if_pos hs]
  rw [hp]
  have LL := R1.len underlying44
  have fin : PM h2 Fs gs t nv gr { X with last := none } ∧ Ch (Rg Fs h) h h2 := ⟨⟨_, _, _, _, _, _, Q2⟩, N1.rg.thenR (Q1.dirtyT C2)⟩
  rcases show_cases r with g | ⟨_, g⟩ | ⟨x, g, hx⟩
  · exact absurd g hs
  · have d1 : decide (¬ ((showL r).length : Int) = 1) = true := decide_eq_true (by omega)
    simp only [wk, wt, wl, ↓reduceIte, Nat.reduceEqDiff, Nat.reduceAdd, Nat.zero_add, not_false_eq_true, not_true_eq_false, LL, d1, pt, e2]
    exact fin
  · have d1 : decide (¬ ((showL r).length : Int) = 1) = false := decide_eq_false (by rw [g]; simp)
    have IX := R1.index underlying44 asz21 (q := .i64) (i := (0 : Int)) (by omega) (by rw [g]; simp)
    have LX := R1.at (i := 0) (t := 21) underlying21 rfl (by rw [g]; simp)
    have hx0 : (showL r).getD 0 0 = x := by rw [g]; rfl
    rw [hx0] at LX
    simp only [show (0 : Int).toNat = 0 from rfl] at IX
    have d2 : decide (¬ x = r) = true := decide_eq_true hx
    simp only [wk, wt, wl, ↓reduceIte, Nat.reduceEqDiff, Nat.reduceAdd, Nat.zero_add, not_false_eq_true, not_true_eq_false, LL, d1, IX, LX, d2, pt, e2]
    exact fin
end Go.Proofs.YtefpalmihdbmiaaDoor.Am
end
