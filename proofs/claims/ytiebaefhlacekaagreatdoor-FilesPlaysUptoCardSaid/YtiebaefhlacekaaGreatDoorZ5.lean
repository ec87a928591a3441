/- The texts of this seat, one behind another (part 5 of 16): the frame (an abstract machine), the contracts of functions, the laws. -/
import Derived.Test.YtiebaefhlacekaaGreatDoorZ2
import Derived.Test.YtiebaefhlacekaaGreatDoorZ4
import Derived.Test.YtiebaefhlacekaaGreatDoorAmKind5
section
/- Files: how they lie in memory; contracts of number, New, Fails, Waits, room, and of Clone of bytes, by walks. -/
set_option linter.unusedSimpArgs false
set_option linter.unusedVariables false
set_option maxHeartbeats 4000000
set_option maxRecDepth 20000
namespace Go.Proofs.YtiebaefhlacekaaGreatDoor.Am
open Go Go.RowKit Go.Proofs.Tryz
def boxV (P : Program) (h : Heap) (e : TypeId) (v : Value) : Option (Value × Heap) := match asz P e with | some _ => if v.cells.all one = true then some (.pointer (some ⟨h.size, 0, none⟩), h.new e v.cells.toList) else none | none => none
theorem aeff_box {P : Program} {h : Heap} {tm : Tm} {e : TypeId} {x : Operand} : aeff P tm h (.box e x) = boxV P h e (ev tm x) := rfl
def pt (b : Nat) : Value := .pointer (some ⟨b, 0, none⟩)
theorem Keeps.opush {h : Heap} (H : Wf h) (ao : AObj) : Keeps h (h.opush ao) := by
  refine ⟨⟨fun b hb => H.1 b (by have : h.size + 1 ≤ b := hb; omega), H.2⟩, Nat.le_succ _, fun _ _ _ => rfl, fun b k hb hk => ?_, fun b k _ hk => ⟨k, hk, rfl⟩, fun x hx _ => ?_⟩
  · have : h.get b = some k := hk
    rw [H.1 b hb] at this; cases this
  · show (if x = h.size then _ else h.obj x) = h.obj x
    rw [if_neg (by omega)]
theorem oput_ch {h : Heap} (H : Wf h) {r : Nat} {ao : AObj} : Ch (fun x => x = r) h (h.oput r ao) := by
  refine ⟨H, Nat.le_refl _, fun _ _ _ => rfl, fun b k hb hk => ?_, fun b k _ hk => ⟨k, hk, rfl⟩, fun x hx hn => ?_⟩
  · have : h.get b = some k := hk
    rw [H.1 b hb] at this; cases this
  · show (if x = r then _ else h.obj x) = h.obj x
    rw [if_neg hn]
theorem opush_size {h : Heap} {ao : AObj} : (h.opush ao).size = h.size + 1 := rfl
theorem blk_new {x n c : Nat} : ∀ z, blkOf (.slice (some ⟨x, 0, none⟩) n c) = some z → x ≤ z := fun z e => by cases e; exact Nat.le_refl _
theorem blk_at {x n c z : Nat} (e : blkOf (.slice (some ⟨x, 0, none⟩) n c) = some z) : x = z := by cases e; rfl
theorem FamV.congr {h : Heap} {v v' : Value} {x : Nat} (e : blkOf v' = blkOf v) (F : FamV h v' x) : FamV h v x := by
  obtain ⟨b, hb, f⟩ := F
  exact ⟨b, by rw [← e]; exact hb, f⟩
/-- Files as they lie: f's own block b, the map r, the row of outcomes. -/
structure FK (h : Heap) (b r : Nat) (fv : Value) (fl : List Int) (es : List (ByteArray × Value)) : Prop where
  var : Var h b [.map (some r), fv]
  own : OwnR prog h 1 fv fl.length (fl.map (Value.int .i64))
  nb : blkOf fv ≠ some b
  obj : h.obj r = some (.smap es)
  nget : h.get r = none
  lt : r < h.size
/-- What a deed may change. -/
def FDi (h : Heap) (b r : Nat) (fv : Value) (x : Nat) : Prop := x = b ∨ x = r ∨ FamV h fv x
section
variable {h h' : Heap} {b r : Nat} {fv : Value} {fl : List Int} {es : List (ByteArray × Value)}
theorem FK.jlt (M : FK h b r fv fl es) : ∀ y, blkOf fv = some y → y < h.size := fun y e => (M.own.1.blk_lt e).1
theorem FK.rb (M : FK h b r fv fl es) : r ≠ b := by
  rintro rfl
  obtain ⟨k, q1, _⟩ := M.var
  rw [M.nget] at q1; cases q1
theorem FK.notr (M : FK h b r fv fl es) : ¬ FamV h fv r := by
  rintro ⟨_, _, k1, _, g1, _⟩
  rw [M.nget] at g1; cases g1
theorem FK.keeps (M : FK h b r fv fl es) (H : Wf h) (K : Keeps h h') : FK h' b r fv fl es :=
  ⟨Keeps.var H K M.var, M.own.keeps K, M.nb, (K.obj M.lt).trans M.obj, (K.at M.lt).trans M.nget, Nat.lt_of_lt_of_le M.lt (Ch.le K)⟩
theorem FDi.back {D : Nat → Prop} (C : Ch D h h') (hlt : ∀ y, blkOf fv = some y → y < h.size) {x : Nat} (F : FDi h' b r fv x) : h.size ≤ x ∨ FDi h b r fv x := by
  rcases F with e | e | F
  · exact .inr (.inl e)
  · exact .inr (.inr (.inl e))
  · exact (FamV.back C hlt F).imp id fun F => .inr (.inr F)
end
/-- An error, as it is told: 0 none. -/
def errV (e : Int) : Value := if e = 0 then .nilIface else .iface 83 (.int .i64 e)
def numZ (e : Int) : Int := if e = 0 then 0 else if e = 1 then 1 else if e = 2 then 3 else if e = 3 then 27 else 28
theorem errV0 : errV 0 = .nilIface := rfl
theorem errVn {e : Int} (h : e ≠ 0) : errV e = .iface 83 (.int .i64 e) := if_neg h
theorem if_none : abin prog .eql 61 .nilIface .nilIface = none := by simp [abin, aeq, underlying61]
theorem if_noneC {X : Operand} {v : Value} : anilC prog .eql 61 X (.const v) .nilIface .nilIface = some (.bool true) := by simp [anilC, isLit, underlying61]
theorem if_nnoneC {X : Operand} {v : Value} : anilC prog .neq 61 X (.const v) .nilIface .nilIface = some (.bool false) := by simp [anilC, isLit, underlying61]
theorem conc_reason : prog.concrete 83 = true := by kernel_rfl
theorem if_some {t : TypeId} {v : Value} : abin prog .eql 61 (.iface t v) .nilIface = some (.bool false) := by simp [abin, aeq, underlying61]
theorem if_nnone : abin prog .neq 61 .nilIface .nilIface = none := by simp [abin, aeq, underlying61]
theorem if_nsome {t : TypeId} {v : Value} : abin prog .neq 61 (.iface t v) .nilIface = some (.bool true) := by simp [abin, aeq, underlying61]
theorem number_ok {e : Int} {h : Heap} : ACalls prog 24 #[errV e] h (fun y h' => y = .int .i64 (numZ e) ∧ h' = h) := by
  refine acalls_of_W func24 rfl (by kernel_rfl) (by kernel_rfl) (by simp [ntmps24]) ?_
  by_cases h0 : e = 0
  · subst h0
    simp only [wk, wt, wl, ↓reduceIte, Nat.reduceEqDiff, Nat.reduceAdd, Nat.zero_add, not_false_eq_true, not_true_eq_false, errV0, if_none, if_noneC]
    exact ⟨rfl, trivial⟩
  · rw [errVn h0]
    simp only [wk, wt, wl, ↓reduceIte, Nat.reduceEqDiff, Nat.reduceAdd, Nat.zero_add, not_false_eq_true, not_true_eq_false, if_some, call_is, conc_reason]
    refine is_ok.use_pure ?_
    by_cases h1 : e = 1
    · subst h1
      simp only [wk, wt, wl, ↓reduceIte, Nat.reduceEqDiff, Nat.reduceAdd, Nat.zero_add, not_false_eq_true, not_true_eq_false, decide_true]
      exact ⟨rfl, trivial⟩
    · simp only [wk, wt, wl, ↓reduceIte, Nat.reduceEqDiff, Nat.reduceAdd, Nat.zero_add, not_false_eq_true, not_true_eq_false, decide_eq_false h1, call_is, conc_reason]
      refine is_ok.use_pure ?_
      by_cases h2 : e = 2
      · subst h2
        simp only [wk, wt, wl, ↓reduceIte, Nat.reduceEqDiff, Nat.reduceAdd, Nat.zero_add, not_false_eq_true, not_true_eq_false, decide_true]
        exact ⟨rfl, trivial⟩
      · simp only [wk, wt, wl, ↓reduceIte, Nat.reduceEqDiff, Nat.reduceAdd, Nat.zero_add, not_false_eq_true, not_true_eq_false, decide_eq_false h2, call_is, conc_reason]
        refine is_ok.use_pure ?_
        by_cases h3 : e = 3
        · subst h3
          simp only [wk, wt, wl, ↓reduceIte, Nat.reduceEqDiff, Nat.reduceAdd, Nat.zero_add, not_false_eq_true, not_true_eq_false, decide_true]
          exact ⟨rfl, trivial⟩
        · simp only [wk, wt, wl, ↓reduceIte, Nat.reduceEqDiff, Nat.reduceAdd, Nat.zero_add, not_false_eq_true, not_true_eq_false, decide_eq_false h3]
          refine ⟨?_, trivial⟩
          simp only [numZ, if_neg h0, if_neg h1, if_neg h2, if_neg h3]
theorem smapKind : smapOf prog 39 = some 32 := by kernel_rfl
theorem mkMap {h : Heap} : amakeMapM prog h 39 = some (.map (some h.size), h.opush (.smap [])) := by simp [amakeMapM, amakeMapS, smapKind]
theorem build_f {r : Option Nat} : abuild prog 41 #[(0, .map r)] = some (.agg #[.map r, .slice none 0 0]) := by simp [abuild, wt, aplaces, Instr.fill, Value.cells]
theorem boxV_f {h : Heap} {r : Option Nat} : boxV prog h 41 (.agg #[.map r, .slice none 0 0]) = some (.pointer (some ⟨h.size, 0, none⟩), h.new 41 [.map r, .slice none 0 0]) := by
  simp [boxV, asz41, Value.cells, one]
theorem new_ok {h : Heap} : ACalls prog 4 #[] h (fun y h' => ∃ b r, y = pt b ∧ FK h' b r (.slice none 0 0) [] [] ∧ Keeps h h' ∧ h.size ≤ b ∧ h.size ≤ r) := by
  refine acalls_of_W' func4 rfl (by kernel_rfl) (by kernel_rfl) (by simp [ntmps4]) ?_
  intro H
  simp only [wk, wt, wl, ↓reduceIte, Nat.reduceEqDiff, Nat.reduceAdd, Nat.zero_add, not_false_eq_true, not_true_eq_false, aeff_box, mkMap, build_f, boxV_f, opush_size]
  have K1 := Keeps.opush H (.smap [])
  have N2 := Keeps.new (Ch.wf K1) 41 [.map (some h.size), .slice none 0 0]
  have V2 := Var.new (e := 41) (Ch.wf K1) (cs := [.map (some h.size), .slice none 0 0])
  have hs : (h.opush (.smap [])).size = h.size + 1 := rfl
  rw [hs] at V2
  refine ⟨h.size + 1, h.size, rfl, ⟨V2, OwnR.nil0, (fun e => by cases e), ?_, ?_, ?_⟩, K1.trans N2, by omega, Nat.le_refl _⟩
  · show (if h.size = h.size then _ else _) = _
    rw [if_pos rfl]
  · show ((h.opush (.smap [])).new 41 _).get h.size = none
    rw [show ((h.opush (.smap [])).new 41 [.map (some h.size), .slice none 0 0]).get h.size = (h.opush (.smap [])).get h.size from Heap.push_ne (by rw [hs]; omega)]
    exact H.1 h.size (Nat.le_refl _)
  · show h.size < h.size + 1 + 1; omega
theorem waits_ok {h : Heap} {b r : Nat} {fv : Value} {fl : List Int} {es : List (ByteArray × Value)} (M : FK h b r fv fl es) :
    ACalls prog 22 #[pt b] h (fun y h' => y = .int .i64 fl.length ∧ h' = h) := by
  refine acalls_of_W func22 rfl (by kernel_rfl) (by kernel_rfl) (by simp [ntmps22]) ?_
  have PN := fun {a : Addr} => ptr_some (P := prog) (a := a) underlying23
  have ML := M.var.load1 (P := prog) (t := 27) underlying27 rfl (i := 1)
  simp only [List.getElem?_cons_succ, List.getElem?_cons_zero] at ML
  simp only [wk, wt, wl, ↓reduceIte, Nat.reduceEqDiff, Nat.reduceAdd, Nat.zero_add, not_false_eq_true, not_true_eq_false, pt, PN, ML, Rd.len M.own.1 underlying27]
theorem waits0 {h : Heap} : ACalls prog 22 #[.pointer none] h (fun y h' => y = .int .i64 0 ∧ h' = h) := by
  refine acalls_of_W func22 rfl (by kernel_rfl) (by kernel_rfl) (by simp [ntmps22]) ?_
  simp only [wk, wt, wl, ↓reduceIte, Nat.reduceEqDiff, Nat.reduceAdd, Nat.zero_add, not_false_eq_true, not_true_eq_false, ptr_none (P := prog) underlying23]
theorem fails0 {n : Int} {h : Heap} : ACalls prog 20 #[.pointer none, .int .i64 n] h (fun y h' => y = .tuple #[] ∧ h' = h) := by
  refine acalls_of_W func20 rfl (by kernel_rfl) (by kernel_rfl) (by simp [ntmps20]) ?_
  simp only [wk, wt, wl, ↓reduceIte, Nat.reduceEqDiff, Nat.reduceAdd, Nat.zero_add, not_false_eq_true, not_true_eq_false, ptr_nnone (P := prog) underlying23]
theorem bi1 {h : Heap} {n : Int} : abuildSlice prog h 27 1 #[(0, .int .i64 n)] = some (.slice (some ⟨h.size, 0, none⟩) 1 2, h.new 3 [.int .i64 n]) :=
  build1 underlying27 asz3 azero3 rfl rfl
theorem fails_ok {h : Heap} {b r : Nat} {fv : Value} {fl : List Int} {es : List (ByteArray × Value)} {n : Int} (M : FK h b r fv fl es) (hl : fl.length ≤ 1000000) :
    ACalls prog 20 #[pt b, .int .i64 n] h (fun y h' => y = .tuple #[] ∧ ∃ fv', FK h' b r fv' (fl ++ [n]) es ∧ Ch (FDi h b r fv) h h' ∧ ∀ z, blkOf fv' = some z → h.size ≤ z ∨ blkOf fv = some z) := by
  refine acalls_of_W' func20 rfl (by kernel_rfl) (by kernel_rfl) (by simp [ntmps20]) ?_
  intro H
  have PN := fun {a : Addr} => ptr_nsome (P := prog) (a := a) underlying23
  have ML := M.var.load1 (P := prog) (t := 27) underlying27 rfl (i := 1)
  simp only [List.getElem?_cons_succ, List.getElem?_cons_zero] at ML
  obtain ⟨h5, e5, O5, z5, C5, _, _⟩ := M.own.append1 H (t := 27) underlying27 elem3 fits3 (by decide) (xs := [.int .i64 n]) rfl (by omega)
  have hbl := M.var.lt H
  have V5 := Ch.var H C5 M.var (M.var.notFam M.nb)
  obtain ⟨h6, e6, V6, C6, z6⟩ := V5.store1 (P := prog) (t := 27) (v := .slice (some ⟨h.size + 1, 0, none⟩) (fl.length + 1) 0) (i := 1) (Ch.wf C5) asz27 (by simp) rfl
  simp only [List.set_cons_succ, List.set_cons_zero] at V6
  have O6 := Ch.ownR C6 O5 fun z e e' => by have := blk_at e; omega
  have hrb := M.rb
  simp only [wk, wt, wl, ↓reduceIte, Nat.reduceEqDiff, Nat.reduceAdd, Nat.zero_add, not_false_eq_true, not_true_eq_false, pt, PN, ML, bi1, e5, e6]
  refine ⟨.slice (some ⟨h.size + 1, 0, none⟩) (fl.length + 1) 0, ⟨V6, ?_, fun e => by have := blk_at e; omega, ?_, ?_, ?_⟩, ?_, fun z e => by cases e; exact .inl (Nat.le_succ _)⟩
  · rw [show (fl ++ [n]).length = fl.length + 1 by simp, List.map_append]; exact O6
  · rw [C6.obj (by have := M.lt; omega) hrb, C5.obj M.lt M.notr]; exact M.obj
  · rw [C6.at (by have := M.lt; omega) hrb, C5.at M.lt M.notr]; exact M.nget
  · have := M.lt; omega
  · exact (C5.mono (D' := FDi h b r fv) fun x F => .inr (.inr F)).then C6 fun x e => .inr (.inl e)
theorem body_clone : hasBody prog 35 = true := by kernel_rfl
theorem Own.mine {h : Heap} {B s n b : Nat} {v : Value} {cs : List Value} (O : Own prog B h s v n cs) (hn : n ≠ 0) (hv : v = .slice (some ⟨b, 0, none⟩) 0 1 ∨ v = .slice none 0 0 ∨ v = .slice (some ⟨b + 1, 0, none⟩) n 0) {z : Nat} (e : blkOf v = some z) : ∃ k, h.get z = some k ∧ k.ro = false := by
  rcases O.2 with ⟨c, rfl⟩ | ⟨a, rfl⟩ | ⟨b', o, c, k, rfl, _, g1, g2, _⟩
  · cases e
  · rcases hv with hv | hv | hv
    · cases hv; exact absurd rfl hn
    · cases hv
    · simp at hv
  · cases e; exact ⟨k, g1, g2⟩
theorem clone_ok {v : Value} {l : List Int} {h : Heap} (R : RdI prog h .u8 v l) (hl : l.length ≤ 1048576) :
    ACalls prog 35 #[v] h (fun y h' => RdI prog h' .u8 y l ∧ (∀ b, blkOf y = some b → h.size ≤ b) ∧ Keeps h h' ∧ (l ≠ [] → ∀ z, blkOf y = some z → ∃ k, h'.get z = some k ∧ k.ro = false)) := by
  refine acalls_of_W' func35 rfl (by kernel_rfl) (by kernel_rfl) (by simp [ntmps35]) ?_
  intro H
  have R0 := R
  obtain ⟨hlen, h2⟩ := R
  have eqn : ∀ c, abin prog .eql 32 (.slice none 0 c) (.slice none 0 0) = some (.bool true) := fun c => by simp [abin, aeq, underlying32]
  have eqs : ∀ a n c, abin prog .eql 32 (.slice (some a) n c) (.slice none 0 0) = some (.bool false) := fun a n c => by simp [abin, aeq, underlying32]
  have nl : l.length = 0 → l = [] := List.eq_nil_of_length_eq_zero
  rcases h2 with ⟨h0, rfl | rfl⟩ | ⟨b, o, c, k, rfl, hb, hk, hlv, ha, ho, hc⟩
  · simp only [wk, wt, wl, ↓reduceIte, Nat.reduceEqDiff, Nat.reduceAdd, Nat.zero_add, not_false_eq_true, not_true_eq_false, eqn]
    rw [nl h0]; exact ⟨Rd.nil0, (fun b e => by cases e), Keeps.refl H, fun _ z e => by cases e⟩
  · simp only [wk, wt, wl, ↓reduceIte, Nat.reduceEqDiff, Nat.reduceAdd, Nat.zero_add, not_false_eq_true, not_true_eq_false, eqn]
    rw [nl h0]; exact ⟨Rd.nil0, (fun b e => by cases e), Keeps.refl H, fun _ z e => by cases e⟩
  · simp only [wk, wt, wl, ↓reduceIte, Nat.reduceEqDiff, Nat.reduceAdd, Nat.zero_add, not_false_eq_true, not_true_eq_false, eqs, build0 underlying32 asz5]
    have O0 : Own prog h.size (h.new 5 []) 1 (.slice (some ⟨h.size, 0, none⟩) 0 1) 0 [] := Own.new H (Nat.le_refl _) asz5 (by simp)
    have K1 := Keeps.new H 5 []
    obtain ⟨v2, h2, e2, O2, R2, C2, hv⟩ := O0.appendRd (P := prog) (Ch.wf K1) (Ch.le K1) underlying32 underlying32 rfl elem5 fits5 (by decide) (R0.keeps K1) (by omega)
    rw [e2]; clear e2
    have hR : RdI prog h2 .u8 v2 l := by
      have := O2.1
      rw [Nat.zero_add, List.nil_append] at this
      simpa [RdI] using this
    have hB : ∀ z, blkOf v2 = some z → h.size ≤ z := fun z e => by
      rcases hv with rfl | rfl | rfl
      · exact blk_new z e
      · cases e
      · exact Nat.le_of_succ_le (blk_new z e)
    have hK := K1.step C2 fun b hb => hb.2
    simp only [wk, wt, wl, ↓reduceIte, Nat.reduceEqDiff, Nat.reduceAdd, Nat.zero_add, not_false_eq_true, not_true_eq_false]
    all_goals exact ⟨hR, hB, hK, fun hne z e => O2.mine (b := h.size) (by have := List.length_pos_iff.2 hne; omega) hv e⟩
end Go.Proofs.YtiebaefhlacekaaGreatDoor.Am
end
section
/- Files: what lies apart from what a deed changes (AP), what the map's values are (DV), what a law holds (SF); contracts of room and fetch, by walks. -/
set_option linter.unusedSimpArgs false
set_option linter.unusedVariables false
set_option maxHeartbeats 4000000
set_option maxRecDepth 20000
namespace Go.Proofs.YtiebaefhlacekaaGreatDoor.Am
open Go Go.RowKit Go.Proofs.Tryz
/-- A value that no deed touches. -/
def AP (h : Heap) (b r : Nat) (fv v : Value) : Prop := ∀ z, blkOf v = some z → z < h.size ∧ ¬ FDi h b r fv z
section
variable {h0 h h' : Heap} {b r : Nat} {fv fv' v : Value} {fl fl' : List Int} {es es' : List (ByteArray × Value)}
theorem FDi.old (M : FK h b r fv fl es) (H : Wf h) (C : Ch (FDi h b r fv) h h') (hn : ∀ z, blkOf fv' = some z → h.size ≤ z ∨ blkOf fv = some z) {z : Nat} (hz : z < h.size) (F : FDi h' b r fv' z) : FDi h b r fv z := by
  rcases F with e | e | ⟨y, hy, k1, k2, g1, g2, e⟩
  · exact .inl e
  · exact .inr (.inl e)
  · obtain ⟨k0, q0, e0⟩ := C.2.2.2.2.1 z k1 hz g1
    obtain ⟨kb, v1, v2, v3, v4, v5, v6⟩ := M.var
    have fin : ∀ y0 k3, FDi h b r fv y0 → h.get y0 = some k3 → k0.fam = k3.fam → FDi h b r fv z := by
      rintro y0 k3 (rfl | rfl | ⟨w, hw, a1, a2, p1, p2, p3⟩) q e3
      · rw [v1] at q; cases q
        by_cases hzb : z = y0
        · exact .inl hzb
        · exact absurd (e3.trans v5) (v6 z k0 hzb q0)
      · rw [M.nget] at q; cases q
      · rw [p1] at q; cases q
        exact .inr (.inr ⟨w, hw, k0, a2, q0, p2, e3.trans p3⟩)
    rcases hn y hy with hge | hw
    · rcases C.2.2.2.1 y k2 hge g2 with h1 | ⟨y0, k3, hd, q3, e3⟩
      · have := H.2 z k0 q0
        omega
      · exact fin y0 k3 hd q3 (by rw [← e0, e, e3])
    · obtain ⟨k3, q3, e3⟩ := C.2.2.2.2.1 y k2 (M.jlt y hw) g2
      exact .inr (.inr ⟨y, hw, k0, k3, q0, q3, by rw [← e0, e, e3]⟩)
theorem AP.step (A : AP h b r fv v) (M : FK h b r fv fl es) (H : Wf h) (C : Ch (FDi h b r fv) h h') (hn : ∀ z, blkOf fv' = some z → h.size ≤ z ∨ blkOf fv = some z) : AP h' b r fv' v := fun z e => by
  obtain ⟨h1, h2⟩ := A z e
  exact ⟨Nat.lt_of_lt_of_le h1 (Ch.le C), fun F => h2 (FDi.old M H C hn h1 F)⟩
theorem AP.keeps (A : AP h b r fv v) (M : FK h b r fv fl es) (H : Wf h) (K : Keeps h h') : AP h' b r fv v := A.step M H (K.mono fun _ e => e.elim) fun z e => .inr e
theorem AP.fresh (M : FK h b r fv fl es) (H : Wf h) (K : Keeps h h') (hv : ∀ z, blkOf v = some z → h.size ≤ z ∧ z < h'.size) : AP h' b r fv v := fun z e => by
  obtain ⟨h1, h2⟩ := hv z e
  refine ⟨h2, ?_⟩
  have hb := M.var.lt H
  have hr := M.lt
  rintro (e | e | ⟨y, hy, k1, k2, g1, g2, e⟩)
  · omega
  · omega
  · have hyl := M.jlt y hy
    rw [K.at hyl] at g2
    have := H.2 y k2 g2
    rcases K.2.2.2.1 z k1 h1 g1 with h3 | ⟨_, _, e3, _⟩
    · omega
    · exact e3.elim
theorem AP.reads (A : AP h b r fv v) {k : IntKind} {l : List Int} (R : RdI prog h k v l) (C : Ch (FDi h b r fv) h h') : RdI prog h' k v l := C.rd R fun z e => (A z e).2
/-- The map's values: they read as these bytes, and lie apart. -/
def DV (h : Heap) (b r : Nat) (fv : Value) (es : List (ByteArray × Value)) (D : List (ByteArray × List Int)) : Prop :=
  es.length = D.length ∧ ∀ (i : Nat) (e : ByteArray × Value) (d : ByteArray × List Int), es[i]? = some e → D[i]? = some d → e.1 = d.1 ∧ RdI prog h .u8 e.2 d.2 ∧ AP h b r fv e.2 ∧ (∀ x, x ∈ d.2 → isB x) ∧ d.2.length ≤ 262144
theorem DV.nil : DV h b r fv [] [] := ⟨rfl, fun i e d he => by simp at he⟩
theorem DV.step {D : List (ByteArray × List Int)} (V : DV h b r fv es D) (M : FK h b r fv fl es') (H : Wf h) (C : Ch (FDi h b r fv) h h') (hn : ∀ z, blkOf fv' = some z → h.size ≤ z ∨ blkOf fv = some z) : DV h' b r fv' es D :=
  ⟨V.1, fun i e d he hd => by
    obtain ⟨q1, q2, q3, q4⟩ := V.2 i e d he hd
    exact ⟨q1, q3.reads q2 C, q3.step M H C hn, q4⟩⟩
theorem DV.keeps {D : List (ByteArray × List Int)} (V : DV h b r fv es D) (M : FK h b r fv fl es') (H : Wf h) (K : Keeps h h') : DV h' b r fv es D := V.step M H (K.mono fun _ e => e.elim) fun z e => .inr e
end
/-- The same on the plain side. -/
def findD (x : ByteArray) : List (ByteArray × List Int) → Option Nat
  | [] => none
  | e :: es => if e.1 = x then some 0 else (findD x es).map (· + 1)
def getD' (D : List (ByteArray × List Int)) (x : ByteArray) : Option (List Int) := (findD x D).bind fun i => D[i]?.map (·.2)
def putD (D : List (ByteArray × List Int)) (x : ByteArray) (v : List Int) : List (ByteArray × List Int) := match findD x D with | some i => D.set i (x, v) | none => D ++ [(x, v)]
theorem find_eq {x : ByteArray} : ∀ {es : List (ByteArray × Value)} {D : List (ByteArray × List Int)}, es.length = D.length → (∀ (i : Nat) (e : ByteArray × Value) (d : ByteArray × List Int), es[i]? = some e → D[i]? = some d → e.1 = d.1) → findS x es = findD x D
  | [], [], _, _ => rfl
  | [], d :: D, h, _ => by simp at h
  | e :: es, [], h, _ => by simp at h
  | e :: es, d :: D, hl, H => by
    have h0 := H 0 e d rfl rfl
    have ih := find_eq (x := x) (es := es) (D := D) (by simpa using hl) fun i a c ha hc => H (i + 1) a c (by simpa using ha) (by simpa using hc)
    simp only [findS, findD, h0, ih]
theorem DV.find {h : Heap} {b r : Nat} {fv : Value} {es : List (ByteArray × Value)} {D : List (ByteArray × List Int)} (V : DV h b r fv es D) (x : ByteArray) : findS x es = findD x D := find_eq V.1 fun i e d he hd => (V.2 i e d he hd).1
theorem DV.get {h : Heap} {b r : Nat} {fv : Value} {es : List (ByteArray × Value)} {D : List (ByteArray × List Int)} (V : DV h b r fv es D) (x : ByteArray) :
    (getS es x = none ∧ getD' D x = none) ∨ ∃ v l, getS es x = some v ∧ getD' D x = some l ∧ RdI prog h .u8 v l ∧ AP h b r fv v ∧ (∀ y, y ∈ l → isB y) ∧ l.length ≤ 262144 := by
  unfold getS getD'
  rw [V.find x]
  cases hf : findD x D with
  | none => exact .inl ⟨rfl, rfl⟩
  | some i =>
    obtain ⟨u, hu⟩ := findS_lt ((V.find x).trans hf)
    have hi : i < D.length := by have := (List.getElem?_eq_some_iff.1 hu).1; have := V.1; omega
    obtain ⟨d, hd⟩ : ∃ d, D[i]? = some d := ⟨D[i], List.getElem?_eq_getElem hi⟩
    obtain ⟨q1, q2⟩ := V.2 i _ _ hu hd
    exact .inr ⟨u, d.2, by simp [hu], by simp [hd], q2⟩
theorem DV.put {h : Heap} {b r : Nat} {fv v : Value} {es : List (ByteArray × Value)} {D : List (ByteArray × List Int)} {x : ByteArray} {l : List Int} (V : DV h b r fv es D) (R : RdI prog h .u8 v l) (A : AP h b r fv v) (hB : ∀ y, y ∈ l → isB y) (hl : l.length ≤ 262144) : DV h b r fv (putS es x v) (putD D x l) := by
  unfold putS putD
  rw [V.find x]
  cases hf : findD x D with
  | none =>
    refine ⟨by simp [V.1], fun i e d he hd => ?_⟩
    rw [List.getElem?_append] at he hd
    rw [V.1] at he
    split at he
    · rename_i hi
      rw [if_pos hi] at hd
      exact V.2 i e d he hd
    · rename_i hi
      rw [if_neg hi] at hd
      have h0 : i - D.length = 0 := by
        have := (List.getElem?_eq_some_iff.1 he).1
        simp only [List.length_singleton] at this
        omega
      rw [h0] at he hd
      cases he; cases hd
      exact ⟨rfl, R, A, hB, hl⟩
  | some j =>
    refine ⟨by simp [V.1], fun i e d he hd => ?_⟩
    rw [List.getElem?_set] at he hd
    rw [V.1] at he
    split at he
    · rename_i hj
      rw [if_pos hj] at hd
      split at he
      · rename_i hlt
        rw [if_pos hlt] at hd
        cases he; cases hd
        exact ⟨rfl, R, A, hB, hl⟩
      · cases he
    · rename_i hj
      rw [if_neg hj] at hd
      exact V.2 i e d he hd
/-- The files that a law made behind memory h0. -/
structure SF (h0 h : Heap) (b r : Nat) (fv : Value) (fl : List Int) (es : List (ByteArray × Value)) (D : List (ByteArray × List Int)) : Prop where
  m : FK h b r fv fl es
  d : DV h b r fv es D
  b0 : h0.size ≤ b
  r0 : h0.size ≤ r
  f0 : ∀ z k, blkOf fv = some z → h.get z = some k → h0.size ≤ k.fam
  k : Keeps h0 h
section
variable {h0 h h' : Heap} {b r : Nat} {fv fv' v : Value} {fl fl' : List Int} {es es' : List (ByteArray × Value)} {D D' : List (ByteArray × List Int)}
theorem SF.wf (S : SF h0 h b r fv fl es D) : Wf h := Ch.wf S.k
theorem SF.ge (S : SF h0 h b r fv fl es D) : ∀ x, FDi h b r fv x → h0.size ≤ x := by
  rintro x (rfl | rfl | ⟨z, hz, k1, k2, g1, g2, e⟩)
  · exact S.b0
  · exact S.r0
  · have := S.f0 z k2 hz g2
    have := S.wf.2 x k1 g1
    omega
theorem SF.step (S : SF h0 h b r fv fl es D) (M : FK h' b r fv' fl' es') (V : DV h' b r fv' es' D') (C : Ch (FDi h b r fv) h h') (hn : ∀ z, blkOf fv' = some z → h.size ≤ z ∨ blkOf fv = some z) : SF h0 h' b r fv' fl' es' D' := by
  refine ⟨M, V, S.b0, S.r0, fun z k hz g => ?_, S.k.step C S.ge⟩
  rcases hn z hz with hge | hw
  · rcases C.2.2.2.1 z k hge g with h1 | ⟨y, k0, hd, q, e⟩
    · have := Ch.le S.k; omega
    · rw [e]
      rcases hd with rfl | rfl | ⟨w, hw, a1, a2, p1, p2, p3⟩
      · obtain ⟨kb, v1, _, _, _, v5, _⟩ := S.m.var
        rw [v1] at q; cases q
        rw [v5]; exact S.b0
      · rw [S.m.nget] at q; cases q
      · rw [p1] at q; cases q
        rw [p3]; exact S.f0 w a2 hw p2
  · obtain ⟨k3, q3, e3⟩ := C.2.2.2.2.1 z k (S.m.jlt z hw) g
    rw [e3]; exact S.f0 z k3 hw q3
theorem SF.keeps (S : SF h0 h b r fv fl es D) (K : Keeps h h') : SF h0 h' b r fv fl es D :=
  S.step (S.m.keeps S.wf K) (S.d.keeps S.m S.wf K) (K.mono fun _ e => e.elim) fun z e => .inr e
theorem SF.begin (K0 : Keeps h0 h) (K : Keeps h h') (M : FK h' b r (.slice none 0 0) [] []) (hb : h.size ≤ b) (hr : h.size ≤ r) : SF h0 h' b r (.slice none 0 0) [] [] [] := by
  have := Ch.le K0
  exact ⟨M, DV.nil, by omega, by omega, fun z k e => by (cases e), K0.trans K⟩
end
theorem errV1 : errV 1 = .iface 83 (.int .i64 1) := rfl
theorem errV2 : errV 2 = .iface 83 (.int .i64 2) := rfl
theorem errV3 : errV 3 = .iface 83 (.int .i64 3) := rfl
theorem errV4 : errV 4 = .iface 83 (.int .i64 4) := rfl
/-- Is a name one? -/
def nameB (s : ByteArray) : Bool := decide (s.size ≠ 0 ∧ s.size ≤ 64 ∧ ¬ 0 ≤ Lib.indexByte s.data.toList 10)
def roomZ (D : List (ByteArray × List Int)) (s : ByteArray) (n : Int) : Int := if nameB s = false then 1 else if 262144 < n then 2 else if findD s D = none ∧ 32 ≤ D.length then 2 else 0
theorem slen {s : ByteArray} : abuiltin prog .len #[9] #[.string s] = some (.int .i64 s.size) := by simp [abuiltin, underlying9]
theorem mlen0 {m : Option Nat} : abuiltin prog .len #[39] #[.map m] = none := by simp [abuiltin, underlying39]
theorem room0 {s : ByteArray} {n : Int} {h : Heap} : ACalls prog 34 #[.pointer none, .string s, .int .i64 n] h (fun y h' => y = errV 1 ∧ h' = h) := by
  refine acalls_of_W func34 rfl (by kernel_rfl) (by kernel_rfl) (by simp [ntmps34]) ?_
  simp only [wk, wt, wl, ↓reduceIte, Nat.reduceEqDiff, Nat.reduceAdd, Nat.zero_add, not_false_eq_true, not_true_eq_false, ptr_none (P := prog) underlying23, conc_reason]
  all_goals exact ⟨rfl, trivial⟩
section
variable {h : Heap} {b r : Nat} {fv : Value} {fl : List Int} {es : List (ByteArray × Value)}
theorem FK.mlen (M : FK h b r fv fl es) : alenMap prog h 39 (.map (some r)) = some (.int .i64 es.length, h) := by simp [alenMap, underlying39, M.obj]
theorem FK.look0 (M : FK h b r fv fl es) {s : ByteArray} (e : findS s es = none) : alookupM prog h 39 (.map (some r)) (.string s) true = some (.tuple #[.slice none 0 0, .bool false], h) := by
  simp [alookupM, alookupS, smapKind, smapAt, M.obj, getS, e, azero32]
theorem FK.look1 (M : FK h b r fv fl es) {s : ByteArray} {v : Value} (e : getS es s = some v) : alookupM prog h 39 (.map (some r)) (.string s) true = some (.tuple #[v, .bool true], h) := by
  simp [alookupM, alookupS, smapKind, smapAt, M.obj, e, azero32]
theorem getS_find {s : ByteArray} {i : Nat} (e : findS s es = some i) : ∃ v, getS es s = some v := by
  obtain ⟨v, hv⟩ := findS_lt e
  exact ⟨v, by simp [getS, e, hv]⟩
theorem room_ok {D : List (ByteArray × List Int)} {s : ByteArray} {n : Int} (M : FK h b r fv fl es) (V : DV h b r fv es D) :
    ACalls prog 34 #[pt b, .string s, .int .i64 n] h (fun y h' => y = errV (roomZ D s n) ∧ h' = h) := by
  refine acalls_of_W func34 rfl (by kernel_rfl) (by kernel_rfl) (by simp [ntmps34]) ?_
  have PN := fun {a : Addr} => ptr_some (P := prog) (a := a) underlying23
  have ML := M.var.load1 (P := prog) (t := 39) underlying39 rfl (i := 0)
  simp only [List.getElem?_cons_zero] at ML
  by_cases c1 : (s.size : Int) = 0
  · have hz : roomZ D s n = 1 := by
      have : nameB s = false := by unfold nameB; exact decide_eq_false fun g => g.1 (by omega)
      unfold roomZ; rw [if_pos this]
    rw [hz]
    simp only [wk, wt, wl, ↓reduceIte, Nat.reduceEqDiff, Nat.reduceAdd, Nat.zero_add, not_false_eq_true, not_true_eq_false, pt, PN, slen, decide_eq_true c1, conc_reason]
    exact ⟨rfl, trivial⟩
  · by_cases c2 : (64 : Int) < s.size
    · have hz : roomZ D s n = 1 := by
        have : nameB s = false := by unfold nameB; exact decide_eq_false fun g => by have := g.2.1; omega
        unfold roomZ; rw [if_pos this]
      rw [hz]
      simp only [wk, wt, wl, ↓reduceIte, Nat.reduceEqDiff, Nat.reduceAdd, Nat.zero_add, not_false_eq_true, not_true_eq_false, pt, PN, slen, decide_eq_false c1, decide_eq_true c2, conc_reason]
      exact ⟨rfl, trivial⟩
    · simp only [wk, wt, wl, ↓reduceIte, Nat.reduceEqDiff, Nat.reduceAdd, Nat.zero_add, not_false_eq_true, not_true_eq_false, pt, PN, slen, decide_eq_false c1, decide_eq_false c2, call_contains]
      refine contains_ok.use_pure ?_
      by_cases c3 : 0 ≤ Lib.indexByte s.data.toList 10
      · have hz : roomZ D s n = 1 := by
          have : nameB s = false := by unfold nameB; exact decide_eq_false fun g => g.2.2 c3
          unfold roomZ; rw [if_pos this]
        rw [hz]
        simp only [wk, wt, wl, ↓reduceIte, Nat.reduceEqDiff, Nat.reduceAdd, Nat.zero_add, not_false_eq_true, not_true_eq_false, decide_eq_true c3, conc_reason]
        exact ⟨rfl, trivial⟩
      · have hn : nameB s = true := by unfold nameB; exact decide_eq_true ⟨by omega, by omega, c3⟩
        have hz : roomZ D s n = if 262144 < n then 2 else if findD s D = none ∧ 32 ≤ D.length then 2 else 0 := by unfold roomZ; rw [if_neg (by rw [hn]; decide)]
        rw [hz, ← V.find s, ← V.1]
        simp only [wk, wt, wl, ↓reduceIte, Nat.reduceEqDiff, Nat.reduceAdd, Nat.zero_add, not_false_eq_true, not_true_eq_false, decide_eq_false c3]
        by_cases c4 : (262144 : Int) < n
        · rw [if_pos c4]
          cases hf : findS s es with
          | none =>
            simp only [wk, wt, wl, ↓reduceIte, Nat.reduceEqDiff, Nat.reduceAdd, Nat.zero_add, not_false_eq_true, not_true_eq_false, pt, ML, M.look0 hf, decide_eq_true c4, conc_reason]
            exact ⟨rfl, trivial⟩
          | some i =>
            obtain ⟨v, hv⟩ := getS_find hf
            simp only [wk, wt, wl, ↓reduceIte, Nat.reduceEqDiff, Nat.reduceAdd, Nat.zero_add, not_false_eq_true, not_true_eq_false, pt, ML, M.look1 hv, decide_eq_true c4, conc_reason]
            exact ⟨rfl, trivial⟩
        · rw [if_neg c4]
          cases hf : findS s es with
          | none =>
            by_cases c5 : (32 : Int) ≤ es.length
            · rw [if_pos ⟨rfl, by omega⟩]
              simp only [wk, wt, wl, ↓reduceIte, Nat.reduceEqDiff, Nat.reduceAdd, Nat.zero_add, not_false_eq_true, not_true_eq_false, pt, ML, M.look0 hf, decide_eq_false c4, Bool.not_false, mlen0, M.mlen, decide_eq_true c5, conc_reason]
              exact ⟨rfl, trivial⟩
            · rw [if_neg (by omega)]
              simp only [wk, wt, wl, ↓reduceIte, Nat.reduceEqDiff, Nat.reduceAdd, Nat.zero_add, not_false_eq_true, not_true_eq_false, pt, ML, M.look0 hf, decide_eq_false c4, Bool.not_false, mlen0, M.mlen, decide_eq_false c5, conc_reason]
              exact ⟨rfl, trivial⟩
          | some i =>
            obtain ⟨v, hv⟩ := getS_find hf
            rw [if_neg (by simp)]
            simp only [wk, wt, wl, ↓reduceIte, Nat.reduceEqDiff, Nat.reduceAdd, Nat.zero_add, not_false_eq_true, not_true_eq_false, pt, ML, M.look1 hv, decide_eq_false c4, Bool.not_true]
            exact ⟨rfl, trivial⟩
theorem fetch0 {s : ByteArray} : ACalls prog 28 #[.pointer none, .string s] h (fun y h' => y = .tuple #[.slice none 0 0, errV 1] ∧ h' = h) := by
  refine acalls_of_W func28 rfl (by kernel_rfl) (by kernel_rfl) (by simp [ntmps28]) ?_
  simp only [wk, wt, wl, ↓reduceIte, Nat.reduceEqDiff, Nat.reduceAdd, Nat.zero_add, not_false_eq_true, not_true_eq_false]
  refine room0.use_pure ?_
  simp only [wk, wt, wl, ↓reduceIte, Nat.reduceEqDiff, Nat.reduceAdd, Nat.zero_add, not_false_eq_true, not_true_eq_false, errV1, if_nsome, conc_reason, call_is]
  refine is_ok.use_pure ?_
  simp only [wk, wt, wl, ↓reduceIte, Nat.reduceEqDiff, Nat.reduceAdd, Nat.zero_add, not_false_eq_true, not_true_eq_false, decide_true]
  all_goals exact ⟨rfl, trivial⟩
/-- What fetch answers. -/
def fetV (es : List (ByteArray × Value)) (s : ByteArray) : Value := if nameB s = false then .tuple #[.slice none 0 0, errV 1] else match getS es s with | none => .tuple #[.slice none 0 0, errV 3] | some v => .tuple #[v, errV 0]
theorem fetch_ok {D : List (ByteArray × List Int)} {s : ByteArray} (M : FK h b r fv fl es) (V : DV h b r fv es D) :
    ACalls prog 28 #[pt b, .string s] h (fun y h' => y = fetV es s ∧ h' = h) := by
  refine acalls_of_W func28 rfl (by kernel_rfl) (by kernel_rfl) (by simp [ntmps28]) ?_
  have ML := M.var.load1 (P := prog) (t := 39) underlying39 rfl (i := 0)
  simp only [List.getElem?_cons_zero] at ML
  simp only [wk, wt, wl, ↓reduceIte, Nat.reduceEqDiff, Nat.reduceAdd, Nat.zero_add, not_false_eq_true, not_true_eq_false]
  refine (room_ok M V).use_pure ?_
  unfold fetV roomZ
  cases hn : nameB s with
  | false =>
    rw [if_pos rfl, if_pos rfl]
    simp only [wk, wt, wl, ↓reduceIte, Nat.reduceEqDiff, Nat.reduceAdd, Nat.zero_add, not_false_eq_true, not_true_eq_false, errV1, if_nsome, conc_reason, call_is]
    refine is_ok.use_pure ?_
    simp only [wk, wt, wl, ↓reduceIte, Nat.reduceEqDiff, Nat.reduceAdd, Nat.zero_add, not_false_eq_true, not_true_eq_false, decide_true]
    all_goals exact ⟨rfl, trivial⟩
  | true =>
    rw [if_neg (by decide), if_neg (by decide), if_neg (by decide)]
    have d21 : decide ((2 : Int) = 1) = false := rfl
    cases hf : findS s es with
    | none =>
      have hg : getS es s = none := by simp [getS, hf]
      rw [hg]
      by_cases c5 : 32 ≤ D.length
      · rw [if_pos ⟨by rw [← V.find s]; exact hf, c5⟩]
        simp only [wk, wt, wl, ↓reduceIte, Nat.reduceEqDiff, Nat.reduceAdd, Nat.zero_add, not_false_eq_true, not_true_eq_false, errV2, if_nsome, conc_reason, call_is]
        refine is_ok.use_pure ?_
        simp only [wk, wt, wl, ↓reduceIte, Nat.reduceEqDiff, Nat.reduceAdd, Nat.zero_add, not_false_eq_true, not_true_eq_false, d21, pt, ML, M.look0 hf, Bool.not_false, conc_reason]
        all_goals exact ⟨rfl, trivial⟩
      · rw [if_neg (fun g => c5 g.2)]
        simp only [wk, wt, wl, ↓reduceIte, Nat.reduceEqDiff, Nat.reduceAdd, Nat.zero_add, not_false_eq_true, not_true_eq_false, errV0, if_nnone, if_nnoneC, pt, ML, M.look0 hf, Bool.not_false, conc_reason]
        exact ⟨rfl, trivial⟩
    | some i =>
      obtain ⟨v, hv⟩ := getS_find hf
      rw [hv, if_neg (fun g => by rw [← V.find s, hf] at g; exact absurd g.1 (by simp))]
      simp only [wk, wt, wl, ↓reduceIte, Nat.reduceEqDiff, Nat.reduceAdd, Nat.zero_add, not_false_eq_true, not_true_eq_false, errV0, if_nnone, if_nnoneC, pt, ML, M.look1 hv, Bool.not_true]
      all_goals exact ⟨rfl, trivial⟩
end
end Go.Proofs.YtiebaefhlacekaaGreatDoor.Am
end
section
/- Files: lines as they are read; contracts of store and Write, by walks. -/
set_option linter.unusedSimpArgs false
set_option linter.unusedVariables false
set_option maxHeartbeats 8000000
set_option maxRecDepth 20000
namespace Go.Proofs.YtiebaefhlacekaaGreatDoor.Am
open Go Go.RowKit Go.Proofs.Tryz
/-- Lines, as they are read. -/
def LR (h : Heap) (lv : Value) (L : List (List Int)) : Prop :=
  ∃ vs : List Value, Rd prog h 1 lv L.length vs ∧ ∀ i, i < L.length → RdI prog h .i32 (vs.getD i undef) (L.getD i []) ∧ vs[i]? = some (vs.getD i undef)
theorem LR.keeps {h h' : Heap} {lv : Value} {L : List (List Int)} (R : LR h lv L) (K : Keeps h h') : LR h' lv L := by
  obtain ⟨vs, h1, h2⟩ := R
  exact ⟨vs, h1.keeps K, fun i hi => ⟨(h2 i hi).1.keeps K, (h2 i hi).2⟩⟩
/-- The bytes of lines. -/
def encLs (L : List (List Int)) : List Int := L.flatMap fun l => encL l ++ [10]
theorem encLs_next {L : List (List Int)} {i : Nat} (hi : i < L.length) : encLs (L.take (i + 1)) = encLs (L.take i) ++ encL (L.getD i []) ++ [10] := by
  rw [List.take_succ_eq_append_getElem hi, List.getD_eq_getElem?_getD, List.getElem?_eq_getElem hi]
  simp only [encLs, List.flatMap_append, List.flatMap_cons, List.flatMap_nil, List.append_nil, Option.getD_some, List.append_assoc]
theorem encLs_isB {L : List (List Int)} : ∀ y, y ∈ encLs L → isB y := fun y hy => by
  obtain ⟨l, _, h⟩ := List.mem_flatMap.1 hy
  rcases List.mem_append.1 h with h | h
  · exact encL_isB y h
  · simp at h; subst h; exact ⟨by decide, by decide⟩
theorem encL_ge (l : List Int) : l.length ≤ (encL l).length := by
  induction l with
  | nil => simp
  | cons r l ih =>
    have := lenZ_range (r := r)
    unfold lenZ at this
    simp only [encL, List.flatMap_cons, List.length_append, List.length_cons] at ih ⊢; omega
theorem encLs_at {L : List (List Int)} {i : Nat} (hi : i < L.length) : (encLs (L.take i)).length + (encL (L.getD i [])).length + 1 ≤ (encLs L).length := by
  have e : encLs L = encLs (L.take (i + 1)) ++ encLs (L.drop (i + 1)) := by
    unfold encLs; rw [← List.flatMap_append, List.take_append_drop]
  rw [e, encLs_next hi]
  simp only [List.length_append, List.length_singleton]; omega
theorem bi8 {h : Heap} {n : Int} : abuildSlice prog h 32 1 #[(0, .int .u8 n)] = some (.slice (some ⟨h.size, 0, none⟩) 1 2, h.new 5 [.int .u8 n]) :=
  build1 underlying32 asz5 azero5 rfl rfl
theorem Own.rdI {h : Heap} {B : Nat} {v : Value} {l : List Int} (O : Own prog B h 1 v l.length (bI l)) : RdI prog h .u8 v l := O.1
/-- What store answers: outcome, how many bytes, the outcomes that are left. -/
def stoE (D : List (ByteArray × List Int)) (fl : List Int) (s : ByteArray) (n : Nat) : Int := if roomZ D s n ≠ 0 then roomZ D s n else match fl with | [] => 0 | m :: _ => if 0 ≤ m ∧ m < n then 4 else 0
def stoN (D : List (ByteArray × List Int)) (fl : List Int) (s : ByteArray) (n : Nat) : Int := if roomZ D s n ≠ 0 then 0 else match fl with | [] => n | m :: _ => if 0 ≤ m ∧ m < n then m else n
def stoF (D : List (ByteArray × List Int)) (fl : List Int) (s : ByteArray) (n : Nat) : List Int := if roomZ D s n ≠ 0 then fl else fl.tail
def stoD (D : List (ByteArray × List Int)) (fl : List Int) (s : ByteArray) (b : List Int) : List (ByteArray × List Int) := if stoE D fl s b.length = 0 then putD D s b else D
theorem putS_mem {es : List (ByteArray × Value)} {x : ByteArray} {v : Value} {e : ByteArray × Value} (h : e ∈ putS es x v) : e ∈ es ∨ e.2 = v := by
  unfold putS at h
  split at h
  · rcases List.mem_or_eq_of_mem_set h with h | h
    · exact .inl h
    · exact .inr (by rw [h])
  · rcases List.mem_append.1 h with h | h
    · exact .inl h
    · simp only [List.mem_singleton] at h
      exact .inr (by rw [h])
theorem roomZ_le {D : List (ByteArray × List Int)} {s : ByteArray} {n : Int} (h : roomZ D s n = 0) : n ≤ 262144 := by
  unfold roomZ at h
  split at h
  · cases h
  · split at h
    · cases h
    · omega
section
variable {h : Heap} {b r : Nat} {fv : Value} {fl : List Int} {es : List (ByteArray × Value)}
theorem FK.upd (M : FK h b r fv fl es) {s : ByteArray} {v : Value} : amapUpdateM prog h 39 (.map (some r)) (.string s) v = some (undef, h.oput r (.smap (putS es s v))) := by
  simp [amapUpdateM, amapUpdateS, smapKind, smapAt, M.obj]
theorem FK.oput (M : FK h b r fv fl es) {es' : List (ByteArray × Value)} : FK (h.oput r (.smap es')) b r fv fl es' := by
  refine ⟨M.var, M.own, M.nb, ?_, M.nget, M.lt⟩
  show (if r = r then _ else _) = _
  rw [if_pos rfl]
theorem FK.oput_ch (M : FK h b r fv fl es) (H : Wf h) {ao : AObj} : Ch (FDi h b r fv) h (h.oput r ao) := (Am.oput_ch H).mono fun x e => .inr (.inl e)
/-- A value is put. -/
theorem FK.put (M : FK h b r fv fl es) (H : Wf h) {D : List (ByteArray × List Int)} {s : ByteArray} {v : Value} {l : List Int} (V : DV h b r fv es D) (R : RdI prog h .u8 v l) (A : AP h b r fv v) (hB : ∀ y, y ∈ l → isB y) (hl : l.length ≤ 262144) :
    FK (h.oput r (.smap (putS es s v))) b r fv fl (putS es s v) ∧ DV (h.oput r (.smap (putS es s v))) b r fv (putS es s v) (putD D s l) :=
  ⟨M.oput, (V.put R A hB hl).step M H (M.oput_ch H) fun z e => .inr e⟩
theorem store_ok {D : List (ByteArray × List Int)} {s : ByteArray} {lv : Value} {L : List (List Int)} (M : FK h b r fv fl es) (V : DV h b r fv es D) (hL : LR h lv L) (hr : ∀ i j, isR ((L.getD i []).getD j 0)) (hn : (encLs L).length ≤ 100000000) (hll : L.length ≤ 100000000) (hfl : fl.length ≤ 1000000) :
    ACalls prog 23 #[pt b, .string s, lv] h (fun y h' => y = .tuple #[.int .i64 (stoN D fl s (encLs L).length), errV (stoE D fl s (encLs L).length)] ∧
      ∃ fv' es', FK h' b r fv' (stoF D fl s (encLs L).length) es' ∧ DV h' b r fv' es' (stoD D fl s (encLs L)) ∧ Ch (FDi h b r fv) h h' ∧ (∀ z, blkOf fv' = some z → h.size ≤ z ∨ blkOf fv = some z) ∧ ∀ e, e ∈ es' → e ∈ es ∨ ∀ z, blkOf e.2 = some z → h.size ≤ z) := by
  refine acalls_of_W' func23 rfl (by kernel_rfl) (by kernel_rfl) (by simp [ntmps23]) ?_
  intro H
  obtain ⟨vs, hR, hE⟩ := hL
  simp only [wk, wt, wl, ↓reduceIte, Nat.reduceEqDiff, Nat.reduceAdd, Nat.zero_add, not_false_eq_true, not_true_eq_false, hR.len underlying31]
  refine W_loop (fun tm h' => Keeps h h' ∧ tm 0 = pt b ∧ tm 1 = .string s ∧ tm 13 = lv ∧ tm 14 = .int .i64 L.length ∧ ∃ (i : Nat) (v : Value), tm 15 = .int .i64 i ∧ tm 8 = v ∧ i ≤ L.length ∧ Own prog h.size h' 1 v (encLs (L.take i)).length (bI (encLs (L.take i))) ∧ ∀ y, blkOf v = some y → h.size ≤ y) (fun tm _ => (L.length - intOf (tm 15)).toNat)
    ⟨Keeps.refl H, (by first | rfl | (simp only [wk, wt, wl, ↓reduceIte, Nat.reduceEqDiff, Nat.reduceAdd, Nat.zero_add, not_false_eq_true, not_true_eq_false]; done) | (simp only [wk, wt, wl, ↓reduceIte, Nat.reduceEqDiff, Nat.reduceAdd, Nat.zero_add, not_false_eq_true, not_true_eq_false]; rfl)), (by first | rfl | (simp only [wk, wt, wl, ↓reduceIte, Nat.reduceEqDiff, Nat.reduceAdd, Nat.zero_add, not_false_eq_true, not_true_eq_false]; done) | (simp only [wk, wt, wl, ↓reduceIte, Nat.reduceEqDiff, Nat.reduceAdd, Nat.zero_add, not_false_eq_true, not_true_eq_false]; rfl)), (by first | rfl | (simp only [wk, wt, wl, ↓reduceIte, Nat.reduceEqDiff, Nat.reduceAdd, Nat.zero_add, not_false_eq_true, not_true_eq_false]; done) | (simp only [wk, wt, wl, ↓reduceIte, Nat.reduceEqDiff, Nat.reduceAdd, Nat.zero_add, not_false_eq_true, not_true_eq_false]; rfl)), (by first | rfl | (simp only [wk, wt, wl, ↓reduceIte, Nat.reduceEqDiff, Nat.reduceAdd, Nat.zero_add, not_false_eq_true, not_true_eq_false]; done) | (simp only [wk, wt, wl, ↓reduceIte, Nat.reduceEqDiff, Nat.reduceAdd, Nat.zero_add, not_false_eq_true, not_true_eq_false]; rfl)), 0, .slice none 0 0, (by first | rfl | (simp only [wk, wt, wl, ↓reduceIte, Nat.reduceEqDiff, Nat.reduceAdd, Nat.zero_add, not_false_eq_true, not_true_eq_false]; done) | (simp only [wk, wt, wl, ↓reduceIte, Nat.reduceEqDiff, Nat.reduceAdd, Nat.zero_add, not_false_eq_true, not_true_eq_false]; rfl)), (by first | rfl | (simp only [wk, wt, wl, ↓reduceIte, Nat.reduceEqDiff, Nat.reduceAdd, Nat.zero_add, not_false_eq_true, not_true_eq_false]; done) | (simp only [wk, wt, wl, ↓reduceIte, Nat.reduceEqDiff, Nat.reduceAdd, Nat.zero_add, not_false_eq_true, not_true_eq_false]; rfl)), by omega, by simpa [encLs, bI] using Own.nil0, fun y hy => by cases hy⟩ ?_
  rintro tm h' ⟨K, t0, t1, t13, t14, i, v, t15, t8, hi, O, hb⟩
  simp only [wk, wt, wl, ↓reduceIte, Nat.reduceEqDiff, Nat.reduceAdd, Nat.zero_add, not_false_eq_true, not_true_eq_false, t14, t15]
  refine condK_dec (fun hd => ?_) (fun hd => ?_)
  · have hi1 : i < L.length := by omega
    obtain ⟨hEi, hvi⟩ := hE i hi1
    have hat := encLs_at hi1
    have hge := encL_ge (L.getD i [])
    have RK := hR.keeps K
    simp (disch := omega) only [wk, wt, wl, ↓reduceIte, Nat.reduceEqDiff, Nat.reduceAdd, Nat.zero_add, not_false_eq_true, not_true_eq_false, t0, t1, t13, t14, t15, t8, RK.index underlying31 asz59 (q := .i64) (i := (i : Int)), Int.toNat_natCast, RK.at0 (t := 59) underlying59 rfl hi1 (by decide), Nat.mul_one, hvi]
    refine (encode_ok (hEi.keeps K) (by omega) (hr i)).use ?_
    rintro v2 h2 ⟨O2, K2, hb2⟩
    have KK := K.trans K2
    have hw2 := Ch.wf KK
    obtain ⟨v3, h3, e3, O3, R3, C3, hv3⟩ := (O.keeps K2).appendRd (P := prog) hw2 (Ch.le KK) underlying32 underlying32 rfl elem5 fits5 (by decide) O2.1 (by omega)
    have K3 := KK.step C3 fun b hb => hb.2
    obtain ⟨v4, h4, e4, O4, C4, R4, hv4, _⟩ := O3.append1 (P := prog) (Ch.wf C3) (Ch.le K3) underlying32 elem5 fits5 (by decide) (by decide) (xs := [.int .u8 10]) rfl (by omega)
    have K4 := K3.step C4 fun b hb => hb.2
    simp (disch := omega) only [wk, wt, wl, ↓reduceIte, Nat.reduceEqDiff, Nat.reduceAdd, Nat.zero_add, not_false_eq_true, not_true_eq_false, t0, t1, t13, t14, t15, t8, e3, bi8, e4, IntWalk.i64_in, intOf_int]
    refine ⟨⟨K4, i + 1, v4, by simp, rfl, by omega, ?_, fun y hy => by rw [hv4] at hy; have := blk_at hy; have := Ch.le K3; omega⟩, by omega⟩
    rw [encLs_next hi1, bI_append, bI_append, List.length_append, List.length_append]
    exact O4
  · have he : L.take i = L := List.take_of_length_le (by omega)
    rw [he] at O
    obtain ⟨X, hX⟩ : ∃ X, encLs L = X := ⟨_, rfl⟩
    have hXB : ∀ y, y ∈ X → isB y := by rw [← hX]; exact encLs_isB
    rw [hX] at O hn ⊢
    have M1 := M.keeps H K
    have V1 := V.keeps M H K
    have A1 : AP h' b r fv v := AP.fresh M H K fun z e => ⟨hb z e, (O.1.blk_lt e).1⟩
    have KF : Ch (FDi h b r fv) h h' := K.mono fun _ e => e.elim
    have hmem : ∀ e, e ∈ putS es s v → e ∈ es ∨ ∀ z, blkOf e.2 = some z → h.size ≤ z := fun e he => (putS_mem he).imp id fun q z hz => hb z (by rw [← q]; exact hz)
    simp only [wk, wt, wl, ↓reduceIte, Nat.reduceEqDiff, Nat.reduceAdd, Nat.zero_add, not_false_eq_true, not_true_eq_false, t0, t1, t8, Rd.len O.1 underlying32]
    refine (room_ok M1 V1).use_pure ?_
    by_cases hz : roomZ D s X.length = 0
    · have hX0 := roomZ_le hz
      have PN := fun {a : Addr} => ptr_some (P := prog) (a := a) underlying23
      have ML := M1.var.load1 (P := prog) (t := 39) underlying39 rfl (i := 0)
      have MF := M1.var.load1 (P := prog) (t := 27) underlying27 rfl (i := 1)
      simp only [List.getElem?_cons_zero, List.getElem?_cons_succ] at ML MF
      have LF := Rd.len M1.own.1 underlying27
      cases fl with
      | nil =>
        have eE : stoE D [] s X.length = 0 := by unfold stoE; rw [if_neg (fun g => g hz)]
        have eN : stoN D [] s X.length = X.length := by unfold stoN; rw [if_neg (fun g => g hz)]
        have eF : stoF D [] s X.length = [] := by unfold stoF; rw [if_neg (fun g => g hz)]; rfl
        have d0 : decide ((0 : Int) < ((0 : Nat) : Int)) = false := rfl
        have eD : stoD D [] s X = putD D s X := by unfold stoD; rw [if_pos eE]
        obtain ⟨P1, P2⟩ := M1.put (s := s) (Ch.wf K) V1 O.rdI A1 hXB (by omega)
        simp only [List.length_nil] at LF
        simp only [wk, wt, wl, ↓reduceIte, Nat.reduceEqDiff, Nat.reduceAdd, Nat.zero_add, not_false_eq_true, not_true_eq_false, hz, errV0, if_nnone, if_nnoneC, pt, t0, t1, t8, MF, LF, ML, M1.upd, d0, Rd.len O.1 underlying32]
        refine ⟨by rw [eE, eN]; rfl, fv, _, by rw [eF]; exact P1, by rw [eD]; exact P2, KF.then (M1.oput_ch (Ch.wf K)) fun x e => FDi.back KF M.jlt e, fun z e => .inr e, hmem⟩
      | cons m t =>
        have eE : stoE D (m :: t) s X.length = if 0 ≤ m ∧ m < X.length then 4 else 0 := by unfold stoE; rw [if_neg (fun g => g hz)]
        have eN : stoN D (m :: t) s X.length = if 0 ≤ m ∧ m < X.length then m else X.length := by unfold stoN; rw [if_neg (fun g => g hz)]
        have eF : stoF D (m :: t) s X.length = t := by unfold stoF; rw [if_neg (fun g => g hz)]; rfl
        have d0 : decide ((0 : Int) < (((m :: t).length : Nat) : Int)) = true := decide_eq_true (by simp only [List.length_cons]; omega)
        have hlf : 0 < (m :: t).length := by simp
        have IX := Rd.index M1.own.1 underlying27 asz3 (q := .i64) (i := (0 : Int)) (by omega) (by simp)
        have AX := Rd.at0 M1.own.1 (t := 3) underlying3 rfl hlf (by decide)
        simp only [Nat.zero_mul, List.map_cons, List.getElem?_cons_zero] at AX
        simp only [Int.toNat_zero] at IX
        have SX := Rd.sliceLo M1.own.1 underlying27 asz3 (q := .i64) (i := (1 : Int)) (by omega) (by simp only [List.length_cons]; omega)
        simp only [Int.toNat_one] at SX
        have OX := M1.own.part (L := 1) (H := (m :: t).length) (by simp) (Nat.le_refl _)
        have hbx : blkOf (sliceV fv 1 1 (m :: t).length) = blkOf fv := sliceV_blk
        obtain ⟨nv, hnv⟩ : ∃ nv, sliceV fv 1 1 (m :: t).length = nv := ⟨_, rfl⟩
        rw [hnv] at SX OX hbx
        obtain ⟨h2, e2, V2, C2, z2⟩ := M1.var.store1 (P := prog) (t := 27) (v := nv) (i := 1) (Ch.wf K) asz27 (by simp) OX.1.one
        simp only [List.set_cons_succ, List.set_cons_zero] at V2
        have hbl := M1.var.lt (Ch.wf K)
        have C2F : Ch (FDi h' b r fv) h' h2 := C2.mono fun x e => .inl e
        have hrb := M1.rb
        have M2 : FK h2 b r nv t es := by
          refine ⟨V2, ?_, by rw [hbx]; exact M1.nb, (C2.obj M1.lt hrb).trans M1.obj, (C2.at M1.lt hrb).trans M1.nget, by have := M1.lt; omega⟩
          have := Ch.ownR C2 OX fun z e e' => M1.nb (by rw [← hbx, e, e'])
          have ht : ∀ l : List Value, l.length = t.length → l.take t.length = l := fun l e => List.take_of_length_le (by omega)
          simpa [Nat.mul_one, ht] using this
        have hn2 : ∀ z, blkOf nv = some z → h'.size ≤ z ∨ blkOf fv = some z := fun z e => .inr (by rw [← hbx]; exact e)
        have V2D := V1.step M1 (Ch.wf K) C2F hn2
        have A2 := A1.step M1 (Ch.wf K) C2F hn2
        have R2 := A1.reads O.rdI C2F
        have CC : Ch (FDi h b r fv) h h2 := KF.then C2F fun x e => FDi.back KF M.jlt e
        have ML2 := M2.var.load1 (P := prog) (t := 39) underlying39 rfl (i := 0)
        simp only [List.getElem?_cons_zero] at ML2
        have fin0 : ¬ (0 ≤ m ∧ m < X.length) → ∃ fv' es', FK (h2.oput r (.smap (putS es s v))) b r fv' (stoF D (m :: t) s X.length) es' ∧ DV (h2.oput r (.smap (putS es s v))) b r fv' es' (stoD D (m :: t) s X) ∧ Ch (FDi h b r fv) h (h2.oput r (.smap (putS es s v))) ∧ (∀ z, blkOf fv' = some z → h.size ≤ z ∨ blkOf fv = some z) ∧ ∀ e, e ∈ es' → e ∈ es ∨ ∀ z, blkOf e.2 = some z → h.size ≤ z := fun g => by
          obtain ⟨P1, P2⟩ := M2.put (s := s) (Ch.wf C2) V2D R2 A2 hXB (by omega)
          have eD : stoD D (m :: t) s X = putD D s X := by unfold stoD; rw [if_pos (by rw [eE, if_neg g])]
          rw [eF, eD]
          exact ⟨nv, _, P1, P2, CC.then (M2.oput_ch (Ch.wf C2)) fun x e => (FDi.back CC (fun y e => M.jlt y (by rw [← hbx]; exact e)) e).imp id fun F => F.imp id fun F => F.imp id fun F => FamV.congr hbx F, fun z e => .inr (by rw [← hbx]; exact e), hmem⟩
        by_cases c1 : 0 ≤ m
        · by_cases c2 : m < X.length
          · have eD : stoD D (m :: t) s X = D := by unfold stoD; rw [if_neg (by rw [eE, if_pos ⟨c1, c2⟩]; decide)]
            simp only [wk, wt, wl, ↓reduceIte, Nat.reduceEqDiff, Nat.reduceAdd, Nat.zero_add, not_false_eq_true, not_true_eq_false, hz, errV0, if_nnone, if_nnoneC, pt, t0, t1, t8, MF, LF, IX, AX, SX, e2, d0, decide_eq_true c1, decide_eq_true c2, Rd.len R2 underlying32, conc_reason]
            rw [eE, eN, eF, eD, if_pos ⟨c1, c2⟩, if_pos ⟨c1, c2⟩]
            exact ⟨rfl, nv, es, M2, V2D, CC, fun z e => .inr (by rw [← hbx]; exact e), fun e he => .inl he⟩
          · have hf := fin0 fun g => c2 g.2
            simp only [wk, wt, wl, ↓reduceIte, Nat.reduceEqDiff, Nat.reduceAdd, Nat.zero_add, not_false_eq_true, not_true_eq_false, hz, errV0, if_nnone, if_nnoneC, pt, t0, t1, t8, MF, LF, IX, AX, SX, e2, d0, decide_eq_true c1, decide_eq_false c2, Rd.len R2 underlying32, ML2, M2.upd]
            rw [eE, eN, if_neg (fun g => c2 g.2), if_neg (fun g => c2 g.2)]
            exact ⟨rfl, hf⟩
        · have hf := fin0 fun g => c1 g.1
          simp only [wk, wt, wl, ↓reduceIte, Nat.reduceEqDiff, Nat.reduceAdd, Nat.zero_add, not_false_eq_true, not_true_eq_false, hz, errV0, if_nnone, if_nnoneC, pt, t0, t1, t8, MF, LF, IX, AX, SX, e2, d0, decide_eq_false c1, Rd.len R2 underlying32, ML2, M2.upd]
          rw [eE, eN, if_neg (fun g => c1 g.1), if_neg (fun g => c1 g.1)]
          exact ⟨rfl, hf⟩
    · have hE0 : stoE D fl s X.length = roomZ D s X.length := by unfold stoE; rw [if_pos hz]
      have hN0 : stoN D fl s X.length = 0 := by unfold stoN; rw [if_pos hz]
      have hF0 : stoF D fl s X.length = fl := by unfold stoF; rw [if_pos hz]
      have hD0 : stoD D fl s X = D := by unfold stoD; rw [if_neg (by rw [hE0]; exact hz)]
      rw [hE0, hN0, hF0, hD0, errVn hz]
      simp only [wk, wt, wl, ↓reduceIte, Nat.reduceEqDiff, Nat.reduceAdd, Nat.zero_add, not_false_eq_true, not_true_eq_false, if_nsome]
      all_goals exact ⟨fv, es, M1, V1, KF, fun z e => .inr e, fun e he => .inl he⟩
end
end Go.Proofs.YtiebaefhlacekaaGreatDoor.Am
end
section
/- Files: contracts of Write, Put, Bytes, and of all of them at files that are none, by walks. -/
set_option linter.unusedSimpArgs false
set_option linter.unusedVariables false
set_option maxHeartbeats 8000000
set_option maxRecDepth 20000
namespace Go.Proofs.YtiebaefhlacekaaGreatDoor.Am
open Go Go.RowKit Go.Proofs.Tryz
section
variable {h : Heap} {b r : Nat} {fv : Value} {fl : List Int} {es : List (ByteArray × Value)}
theorem store0 {s : ByteArray} {lv : Value} {L : List (List Int)} (hL : LR h lv L) (hr : ∀ i j, isR ((L.getD i []).getD j 0)) (hn : (encLs L).length ≤ 100000000) (hll : L.length ≤ 100000000) :
    ACalls prog 23 #[.pointer none, .string s, lv] h (fun y h' => y = .tuple #[.int .i64 0, errV 1] ∧ Keeps h h') := by
  refine acalls_of_W' func23 rfl (by kernel_rfl) (by kernel_rfl) (by simp [ntmps23]) ?_
  intro H
  obtain ⟨vs, hR, hE⟩ := hL
  simp only [wk, wt, wl, ↓reduceIte, Nat.reduceEqDiff, Nat.reduceAdd, Nat.zero_add, not_false_eq_true, not_true_eq_false, hR.len underlying31]
  refine W_loop (fun tm h' => Keeps h h' ∧ tm 0 = .pointer none ∧ tm 1 = .string s ∧ tm 13 = lv ∧ tm 14 = .int .i64 L.length ∧ ∃ (i : Nat) (v : Value), tm 15 = .int .i64 i ∧ tm 8 = v ∧ i ≤ L.length ∧ Own prog h.size h' 1 v (encLs (L.take i)).length (bI (encLs (L.take i))) ∧ ∀ y, blkOf v = some y → h.size ≤ y) (fun tm _ => (L.length - intOf (tm 15)).toNat)
    ⟨Keeps.refl H, (by first | rfl | (simp only [wk, wt, wl, ↓reduceIte, Nat.reduceEqDiff, Nat.reduceAdd, Nat.zero_add, not_false_eq_true, not_true_eq_false]; done) | (simp only [wk, wt, wl, ↓reduceIte, Nat.reduceEqDiff, Nat.reduceAdd, Nat.zero_add, not_false_eq_true, not_true_eq_false]; rfl)), (by first | rfl | (simp only [wk, wt, wl, ↓reduceIte, Nat.reduceEqDiff, Nat.reduceAdd, Nat.zero_add, not_false_eq_true, not_true_eq_false]; done) | (simp only [wk, wt, wl, ↓reduceIte, Nat.reduceEqDiff, Nat.reduceAdd, Nat.zero_add, not_false_eq_true, not_true_eq_false]; rfl)), (by first | rfl | (simp only [wk, wt, wl, ↓reduceIte, Nat.reduceEqDiff, Nat.reduceAdd, Nat.zero_add, not_false_eq_true, not_true_eq_false]; done) | (simp only [wk, wt, wl, ↓reduceIte, Nat.reduceEqDiff, Nat.reduceAdd, Nat.zero_add, not_false_eq_true, not_true_eq_false]; rfl)), (by first | rfl | (simp only [wk, wt, wl, ↓reduceIte, Nat.reduceEqDiff, Nat.reduceAdd, Nat.zero_add, not_false_eq_true, not_true_eq_false]; done) | (simp only [wk, wt, wl, ↓reduceIte, Nat.reduceEqDiff, Nat.reduceAdd, Nat.zero_add, not_false_eq_true, not_true_eq_false]; rfl)), 0, .slice none 0 0, (by first | rfl | (simp only [wk, wt, wl, ↓reduceIte, Nat.reduceEqDiff, Nat.reduceAdd, Nat.zero_add, not_false_eq_true, not_true_eq_false]; done) | (simp only [wk, wt, wl, ↓reduceIte, Nat.reduceEqDiff, Nat.reduceAdd, Nat.zero_add, not_false_eq_true, not_true_eq_false]; rfl)), (by first | rfl | (simp only [wk, wt, wl, ↓reduceIte, Nat.reduceEqDiff, Nat.reduceAdd, Nat.zero_add, not_false_eq_true, not_true_eq_false]; done) | (simp only [wk, wt, wl, ↓reduceIte, Nat.reduceEqDiff, Nat.reduceAdd, Nat.zero_add, not_false_eq_true, not_true_eq_false]; rfl)), by omega, by simpa [encLs, bI] using Own.nil0, fun y hy => by cases hy⟩ ?_
  rintro tm h' ⟨K, t0, t1, t13, t14, i, v, t15, t8, hi, O, hb⟩
  simp only [wk, wt, wl, ↓reduceIte, Nat.reduceEqDiff, Nat.reduceAdd, Nat.zero_add, not_false_eq_true, not_true_eq_false, t14, t15]
  refine condK_dec (fun hd => ?_) (fun hd => ?_)
  · have hi1 : i < L.length := by omega
    obtain ⟨hEi, hvi⟩ := hE i hi1
    have hat := encLs_at hi1
    have hge := encL_ge (L.getD i [])
    have RK := hR.keeps K
    simp (disch := omega) only [wk, wt, wl, ↓reduceIte, Nat.reduceEqDiff, Nat.reduceAdd, Nat.zero_add, not_false_eq_true, not_true_eq_false, t0, t1, t13, t14, t15, t8, RK.index underlying31 asz59 (q := .i64) (i := (i : Int)), Int.toNat_natCast, RK.at0 (t := 59) underlying59 rfl hi1 (by decide), Nat.mul_one, hvi]
    refine (encode_ok (hEi.keeps K) (by omega) (hr i)).use ?_
    rintro v2 h2 ⟨O2, K2, hb2⟩
    have KK := K.trans K2
    have hw2 := Ch.wf KK
    obtain ⟨v3, h3, e3, O3, R3, C3, hv3⟩ := (O.keeps K2).appendRd (P := prog) hw2 (Ch.le KK) underlying32 underlying32 rfl elem5 fits5 (by decide) O2.1 (by omega)
    have K3 := KK.step C3 fun b hb => hb.2
    obtain ⟨v4, h4, e4, O4, C4, R4, hv4, _⟩ := O3.append1 (P := prog) (Ch.wf C3) (Ch.le K3) underlying32 elem5 fits5 (by decide) (by decide) (xs := [.int .u8 10]) rfl (by omega)
    have K4 := K3.step C4 fun b hb => hb.2
    simp (disch := omega) only [wk, wt, wl, ↓reduceIte, Nat.reduceEqDiff, Nat.reduceAdd, Nat.zero_add, not_false_eq_true, not_true_eq_false, t0, t1, t13, t14, t15, t8, e3, bi8, e4, IntWalk.i64_in, intOf_int]
    refine ⟨⟨K4, i + 1, v4, by simp, rfl, by omega, ?_, fun y hy => by rw [hv4] at hy; have := blk_at hy; have := Ch.le K3; omega⟩, by omega⟩
    rw [encLs_next hi1, bI_append, bI_append, List.length_append, List.length_append]
    exact O4
  · have he : L.take i = L := List.take_of_length_le (by omega)
    rw [he] at O
    obtain ⟨X, hX⟩ : ∃ X, encLs L = X := ⟨_, rfl⟩
    have hXB : ∀ y, y ∈ X → isB y := by rw [← hX]; exact encLs_isB
    rw [hX] at O hn
    simp only [wk, wt, wl, ↓reduceIte, Nat.reduceEqDiff, Nat.reduceAdd, Nat.zero_add, not_false_eq_true, not_true_eq_false, t0, t1, t8, Rd.len O.1 underlying32]
    refine room0.use_pure ?_
    simp only [wk, wt, wl, ↓reduceIte, Nat.reduceEqDiff, Nat.reduceAdd, Nat.zero_add, not_false_eq_true, not_true_eq_false, errV1, if_nsome]
    all_goals exact K
theorem write0 {s : ByteArray} {lv : Value} {L : List (List Int)} (hL : LR h lv L) (hr : ∀ i j, isR ((L.getD i []).getD j 0)) (hn : (encLs L).length ≤ 100000000) (hll : L.length ≤ 100000000) :
    ACalls prog 10 #[.pointer none, .string s, lv] h (fun y h' => y = .tuple #[.int .i64 0, .int .i64 1] ∧ Keeps h h') := by
  refine acalls_of_W' func10 rfl (by kernel_rfl) (by kernel_rfl) (by simp [ntmps10]) ?_
  intro H
  simp only [wk, wt, wl, ↓reduceIte, Nat.reduceEqDiff, Nat.reduceAdd, Nat.zero_add, not_false_eq_true, not_true_eq_false]
  refine (store0 hL hr hn hll).use ?_
  rintro _ h2 ⟨rfl, K2⟩
  simp only [wk, wt, wl, ↓reduceIte, Nat.reduceEqDiff, Nat.reduceAdd, Nat.zero_add, not_false_eq_true, not_true_eq_false]
  refine number_ok.use_pure ?_
  simp only [wk, wt, wl, ↓reduceIte, Nat.reduceEqDiff, Nat.reduceAdd, Nat.zero_add, not_false_eq_true, not_true_eq_false]
  all_goals exact ⟨rfl, K2⟩
theorem write_ok {D : List (ByteArray × List Int)} {s : ByteArray} {lv : Value} {L : List (List Int)} (M : FK h b r fv fl es) (V : DV h b r fv es D) (hL : LR h lv L) (hr : ∀ i j, isR ((L.getD i []).getD j 0)) (hn : (encLs L).length ≤ 100000000) (hll : L.length ≤ 100000000) (hfl : fl.length ≤ 1000000) :
    ACalls prog 10 #[pt b, .string s, lv] h (fun y h' => y = .tuple #[.int .i64 (stoN D fl s (encLs L).length), .int .i64 (numZ (stoE D fl s (encLs L).length))] ∧
      ∃ fv' es', FK h' b r fv' (stoF D fl s (encLs L).length) es' ∧ DV h' b r fv' es' (stoD D fl s (encLs L)) ∧ Ch (FDi h b r fv) h h' ∧ (∀ z, blkOf fv' = some z → h.size ≤ z ∨ blkOf fv = some z) ∧ ∀ e, e ∈ es' → e ∈ es ∨ ∀ z, blkOf e.2 = some z → h.size ≤ z) := by
  refine acalls_of_W' func10 rfl (by kernel_rfl) (by kernel_rfl) (by simp [ntmps10]) ?_
  intro H
  simp only [wk, wt, wl, ↓reduceIte, Nat.reduceEqDiff, Nat.reduceAdd, Nat.zero_add, not_false_eq_true, not_true_eq_false]
  refine (store_ok M V hL hr hn hll hfl).use ?_
  rintro _ h2 ⟨rfl, X2⟩
  simp only [wk, wt, wl, ↓reduceIte, Nat.reduceEqDiff, Nat.reduceAdd, Nat.zero_add, not_false_eq_true, not_true_eq_false]
  refine number_ok.use_pure ?_
  simp only [wk, wt, wl, ↓reduceIte, Nat.reduceEqDiff, Nat.reduceAdd, Nat.zero_add, not_false_eq_true, not_true_eq_false]
  all_goals exact X2
def putZ (D : List (ByteArray × List Int)) (s : ByteArray) (l : List Int) : List (ByteArray × List Int) := if roomZ D s l.length = 0 then putD D s l else D
theorem put0 {s : ByteArray} {v : Value} {l : List Int} (R : RdI prog h .u8 v l) :
    ACalls prog 16 #[.pointer none, .string s, v] h (fun y h' => y = .int .i64 1 ∧ h' = h) := by
  refine acalls_of_W func16 rfl (by kernel_rfl) (by kernel_rfl) (by simp [ntmps16]) ?_
  simp only [wk, wt, wl, ↓reduceIte, Nat.reduceEqDiff, Nat.reduceAdd, Nat.zero_add, not_false_eq_true, not_true_eq_false, Rd.len R underlying32]
  refine room0.use_pure ?_
  have e1 := errV1
  simp only [wk, wt, wl, ↓reduceIte, Nat.reduceEqDiff, Nat.reduceAdd, Nat.zero_add, not_false_eq_true, not_true_eq_false, errV1, if_some]
  rw [← errV1]
  refine number_ok.use_pure ?_
  simp only [wk, wt, wl, ↓reduceIte, Nat.reduceEqDiff, Nat.reduceAdd, Nat.zero_add, not_false_eq_true, not_true_eq_false]
  all_goals exact ⟨rfl, trivial⟩
theorem put_ok' {D : List (ByteArray × List Int)} {s : ByteArray} {v : Value} {l : List Int} (M : FK h b r fv fl es) (V : DV h b r fv es D) (R : RdI prog h .u8 v l) (hB : ∀ y, y ∈ l → isB y) :
    ACalls prog 16 #[pt b, .string s, v] h (fun y h' => y = .int .i64 (numZ (roomZ D s l.length)) ∧
      ∃ es', FK h' b r fv fl es' ∧ DV h' b r fv es' (putZ D s l) ∧ Ch (FDi h b r fv) h h' ∧ ∀ e, e ∈ es' → e ∈ es ∨ ∀ z, blkOf e.2 = some z → h.size ≤ z) := by
  refine acalls_of_W' func16 rfl (by kernel_rfl) (by kernel_rfl) (by simp [ntmps16]) ?_
  intro H
  simp only [wk, wt, wl, ↓reduceIte, Nat.reduceEqDiff, Nat.reduceAdd, Nat.zero_add, not_false_eq_true, not_true_eq_false, Rd.len R underlying32]
  refine (room_ok M V).use_pure ?_
  by_cases hz : roomZ D s l.length = 0
  · have hl := roomZ_le hz
    have ML := M.var.load1 (P := prog) (t := 39) underlying39 rfl (i := 0)
    simp only [List.getElem?_cons_zero] at ML
    simp only [wk, wt, wl, ↓reduceIte, Nat.reduceEqDiff, Nat.reduceAdd, Nat.zero_add, not_false_eq_true, not_true_eq_false, hz, errV0, if_none, if_noneC]
    refine adraw_order [(0, false), (1, false), (2, false), (3, false), (4, false), (5, false), (6, true), (7, false)] mixed (by kernel_rfl) (by kernel_rfl) (by kernel_rfl) (by with_reducible repeat (first | exact PF_retK | refine PF_thenK ?_ | refine PF_blockK ?_)) ?_
    simp only [wk, wt, wl, ↓reduceIte, Nat.reduceEqDiff, Nat.reduceAdd, Nat.zero_add, not_false_eq_true, not_true_eq_false, dK_t, pt, ML]
    refine (clone_ok R (by omega)).use ?_
    rintro v2 h2 ⟨R2, hb2, K2, _⟩
    have M2 := M.keeps H K2
    have V2 := V.keeps M H K2
    have A2 : AP h2 b r fv v2 := AP.fresh M H K2 fun z e => ⟨hb2 z e, (R2.blk_lt e).1⟩
    obtain ⟨P1, P2⟩ := M2.put (s := s) (Ch.wf K2) V2 R2 A2 hB (by omega)
    have KF : Ch (FDi h b r fv) h h2 := K2.mono fun _ e => e.elim
    have CC := KF.then (M2.oput_ch (Ch.wf K2) (ao := .smap (putS es s v2))) fun x e => FDi.back KF M.jlt e
    have ez : putZ D s l = putD D s l := by unfold putZ; rw [if_pos hz]
    simp only [wk, wt, wl, ↓reduceIte, Nat.reduceEqDiff, Nat.reduceAdd, Nat.zero_add, not_false_eq_true, not_true_eq_false, dK_t, M2.upd]
    refine ⟨Keeps.reads H K2, ?_⟩
    refine (number_ok (e := 0)).use_pure ?_
    simp only [wk, wt, wl, ↓reduceIte, Nat.reduceEqDiff, Nat.reduceAdd, Nat.zero_add, not_false_eq_true, not_true_eq_false]
    all_goals exact ⟨_, P1, by rw [ez]; exact P2, CC, fun e he => (putS_mem he).imp id fun q z hz => hb2 z (by rw [← q]; exact hz)⟩
  · have ez : putZ D s l = D := by unfold putZ; rw [if_neg hz]
    have e0 := errVn hz
    simp only [wk, wt, wl, ↓reduceIte, Nat.reduceEqDiff, Nat.reduceAdd, Nat.zero_add, not_false_eq_true, not_true_eq_false, e0, if_some]
    rw [← e0]
    refine number_ok.use_pure ?_
    simp only [wk, wt, wl, ↓reduceIte, Nat.reduceEqDiff, Nat.reduceAdd, Nat.zero_add, not_false_eq_true, not_true_eq_false]
    all_goals exact ⟨es, M, by rw [ez]; exact V, (Keeps.refl H).mono fun _ e => e.elim, fun e he => .inl he⟩
def bytE (D : List (ByteArray × List Int)) (s : ByteArray) : Int := if nameB s = false then 1 else match getD' D s with | none => 3 | some _ => 0
def bytL (D : List (ByteArray × List Int)) (s : ByteArray) : List Int := if nameB s = false then [] else match getD' D s with | none => [] | some l => l
theorem bytes0 {s : ByteArray} : ACalls prog 18 #[.pointer none, .string s] h (fun y h' => ∃ v, y = .tuple #[v, .int .i64 1] ∧ Keeps h h') := by
  refine acalls_of_W' func18 rfl (by kernel_rfl) (by kernel_rfl) (by simp [ntmps18]) ?_
  intro H
  simp only [wk, wt, wl, ↓reduceIte, Nat.reduceEqDiff, Nat.reduceAdd, Nat.zero_add, not_false_eq_true, not_true_eq_false]
  refine fetch0.use_pure ?_
  simp only [wk, wt, wl, ↓reduceIte, Nat.reduceEqDiff, Nat.reduceAdd, Nat.zero_add, not_false_eq_true, not_true_eq_false]
  refine (clone_ok (l := []) (v := .slice none 0 0) Rd.nil0 (by decide)).use ?_
  rintro v2 h2 ⟨R2, hb2, K2, _⟩
  simp only [wk, wt, wl, ↓reduceIte, Nat.reduceEqDiff, Nat.reduceAdd, Nat.zero_add, not_false_eq_true, not_true_eq_false]
  refine number_ok.use_pure ?_
  simp only [wk, wt, wl, ↓reduceIte, Nat.reduceEqDiff, Nat.reduceAdd, Nat.zero_add, not_false_eq_true, not_true_eq_false]
  all_goals exact ⟨v2, rfl, K2⟩
theorem bytes_ok {D : List (ByteArray × List Int)} {s : ByteArray} (M : FK h b r fv fl es) (V : DV h b r fv es D) :
    ACalls prog 18 #[pt b, .string s] h (fun y h' => ∃ v, y = .tuple #[v, .int .i64 (numZ (bytE D s))] ∧ RdI prog h' .u8 v (bytL D s) ∧ Keeps h h' ∧ (∀ z, blkOf v = some z → h.size ≤ z) ∧ (bytL D s ≠ [] → ∀ z, blkOf v = some z → ∃ k, h'.get z = some k ∧ k.ro = false)) := by
  refine acalls_of_W' func18 rfl (by kernel_rfl) (by kernel_rfl) (by simp [ntmps18]) ?_
  intro H
  have key : ∃ v e, fetV es s = .tuple #[v, errV e] ∧ e = bytE D s ∧ RdI prog h .u8 v (bytL D s) ∧ (bytL D s).length ≤ 262144 := by
    unfold fetV bytE bytL
    cases hn : nameB s with
    | false => exact ⟨_, _, rfl, rfl, Rd.nil0, by simp⟩
    | true =>
      rw [if_neg (by decide), if_neg (by decide), if_neg (by decide)]
      rcases V.get s with ⟨g1, g2⟩ | ⟨v, l, g1, g2, R, _, _, hl⟩
      · rw [g1, g2]; exact ⟨_, _, rfl, rfl, Rd.nil0, by simp⟩
      · rw [g1, g2]; exact ⟨v, 0, rfl, rfl, R, hl⟩
  obtain ⟨v, e, k1, k2, k3, k4⟩ := key
  simp only [wk, wt, wl, ↓reduceIte, Nat.reduceEqDiff, Nat.reduceAdd, Nat.zero_add, not_false_eq_true, not_true_eq_false]
  refine (fetch_ok M V).use_pure ?_
  rw [k1]
  simp only [wk, wt, wl, ↓reduceIte, Nat.reduceEqDiff, Nat.reduceAdd, Nat.zero_add, not_false_eq_true, not_true_eq_false]
  refine (clone_ok k3 (by omega)).use ?_
  rintro v2 h2 ⟨R2, hb2, K2, hw2⟩
  simp only [wk, wt, wl, ↓reduceIte, Nat.reduceEqDiff, Nat.reduceAdd, Nat.zero_add, not_false_eq_true, not_true_eq_false]
  refine number_ok.use_pure ?_
  simp only [wk, wt, wl, ↓reduceIte, Nat.reduceEqDiff, Nat.reduceAdd, Nat.zero_add, not_false_eq_true, not_true_eq_false]
  exact ⟨v2, by rw [k2], R2, K2, hb2, hw2⟩
end
end Go.Proofs.YtiebaefhlacekaaGreatDoor.Am
end
