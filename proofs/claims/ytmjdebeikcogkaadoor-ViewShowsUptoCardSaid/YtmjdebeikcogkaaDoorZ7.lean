/- The texts of this seat, one behind another (part 7 of 10): the frame (an abstract machine), the contracts of functions, the laws. -/
import Derived.Test.YtmjdebeikcogkaaDoorZ5
import Derived.Test.YtmjdebeikcogkaaDoorAmRound
section
/- Views: contracts of view.rows and of what it hands back, by walks: an iterator, told of what its caller's round does. -/
set_option linter.unusedSimpArgs false
set_option linter.unusedVariables false
set_option maxHeartbeats 4000000
set_option maxRecDepth 20000
namespace Go.Proofs.YtmjdebeikcogkaaDoor.Am
open Go Go.RowKit Go.Proofs.Tryd
section
variable {P : Program} {h h' h'' : Heap} {D : Nat → Prop}
def boxV (P : Program) (h : Heap) (e : TypeId) (v : Value) : Option (Value × Heap) := match asz P e with | some _ => if v.cells.all one = true then some (.pointer (some ⟨h.size, 0, none⟩), h.new e v.cells.toList) else none | none => none
theorem aeff_box {tm : Tm} {e : TypeId} {x : Operand} : aeff P tm h (.box e x) = boxV P h e (ev tm x) := rfl
theorem boxV_one {e : TypeId} {v : Value} {m : Nat} (hs : asz P e = some m) (h1 : one v = true) : boxV P h e v = some (.pointer (some ⟨h.size, 0, none⟩), h.new e [v]) := by
  simp [boxV, hs, one_cells h1, h1]
theorem Wf.oput (H : Wf h) (b : Nat) (ao : AObj) : Wf (h.oput b ao) := H
theorem Keeps.oput (K : Keeps h h') {b : Nat} (hb : h.size ≤ b) (ao : AObj) : Keeps h (h'.oput b ao) := by
  obtain ⟨c1, c2, c3, c4, c5, c6⟩ := K
  refine ⟨c1, c2, c3, c4, c5, fun x hx hn => ?_⟩
  show (if x = b then some ao else h'.obj x) = h.obj x
  rw [if_neg (by omega)]; exact c6 x hx hn
theorem Keeps.rangeH (H : Wf h) (n : Nat) (tm : Tm) (ps : Array Tmp) (asg body : Code) : Keeps h (h.rangeH n tm ps asg body) := by
  refine ⟨⟨fun b hb => H.1 b (by have : h.size + 2 ≤ b := hb; omega), H.2⟩, by show h.size ≤ h.size + 2; omega, fun _ _ _ => rfl, fun b k hb hk => ?_, fun b k _ hk => ⟨k, hk, rfl⟩, fun x hx _ => ?_⟩
  · have : h.get b = some k := hk
    rw [H.1 b hb] at this; cases this
  · show (if x = h.size + 1 then _ else h.obj x) = h.obj x
    rw [if_neg (by omega)]
/-- A round's changes: an object turned ahead of them is turned back behind. -/
theorem Ch.oput2 {b : Nat} {ao a1 : AObj} (C : Ch D (h.oput b a1) h') (hb : h.obj b = some ao) : Ch D h (h'.oput b ao) := by
  obtain ⟨c1, c2, c3, c4, c5, c6⟩ := C
  refine ⟨c1, c2, c3, c4, c5, fun x hx hn => ?_⟩
  show (if x = b then some ao else h'.obj x) = h.obj x
  by_cases e : x = b
  · subst e; rw [if_pos rfl, hb]
  · rw [if_neg e, c6 x hx hn]
    show (if x = b then some a1 else h.obj x) = h.obj x
    rw [if_neg e]
end
/-- What the caller's rounds keep of the caller's own: the row that grows, the fold that is shown. -/
structure JO (yb bo bf B : Nat) (fc : List Value) (i : Int) (pre : List Rw) (acc : List (Int × Int)) (ov : Value) (h : Heap) : Prop where
  var : Var h bo [ov]
  fol : Var h bf fc
  own : OS prog B h 4 cR ov (pre ++ acc.map (mkR i))
  nb : ∀ y, blkOf ov = some y → y ≠ yb ∧ y ≠ bo ∧ y ≠ bf
theorem JO.keeps {yb bo bf B : Nat} {fc : List Value} {i : Int} {pre : List Rw} {acc : List (Int × Int)} {ov : Value} {h h' : Heap} (J : JO yb bo bf B fc i pre acc ov h) (H : Wf h) (K : Keeps h h') : JO yb bo bf B fc i pre acc ov h' :=
  ⟨Keeps.var H K J.var, Keeps.var H K J.fol, J.own.keeps K, J.nb⟩
def pt (b : Nat) : Value := .pointer (some ⟨b, 0, none⟩)
theorem viewrows_ok {a : Value} {cols tab : Int} {wrap : Bool} {h : Heap} (h1 : one a = true) : ACalls prog 28 #[a, .int .i64 cols, .int .i64 tab, .bool wrap] h
    (fun y h' => y = .func (.func 45) #[] #[pt h.size, pt (h.size + 2), pt (h.size + 3), pt (h.size + 1)] ∧ h' = (((h.new 43 [a]).new 3 [.int .i64 cols]).new 3 [.int .i64 tab]).new 4 [.bool wrap]) := by
  refine acalls_of_W func28 rfl (by kernel_rfl) (by kernel_rfl) (by simp [ntmps28]) ?_
  simp only [wk, wt, wl, ↓reduceIte, Nat.reduceEqDiff, Nat.reduceAdd, Nat.zero_add, not_false_eq_true, not_true_eq_false, aeff_box, boxV_one asz43 h1, boxV_one asz3 one_int, boxV_one asz4 one_bool, new_size]
  exact ⟨rfl, trivial⟩
theorem unit_fld {h : Heap} {l : Value} {uv : List (U × Value)} (R : RS prog h 5 cellsU l uv) {k : Nat} {u : U} {tv : Value} (hx : uv[k]? = some (u, tv)) :
    aload prog h 45 (eltA l 5 k) = some (.agg #[.int .i64 u.fr, .int .i64 u.to, .int .i64 u.col, .int .i64 u.wd, tv]) := R.agg (c := cellsU) (fun _ => rfl) underlying45 rfl asz45 hx
theorem rowsIter_ok {a : Value} {line : List Int} {cols tab : Int} {wrap : Bool} {h : Heap} {yb bo bf B px pc pb pw : Nat} {fc : List Value} {i : Int} {pre : List Rw} {ov0 : Value} {ob : AObj}
    (ha : RdI prog h .i32 a line) (G : Gl h) (hline : ∀ j, isR (line.getD j 0)) (hlen : line.length ≤ 10000) (Vx : Var h px [a]) (Vc : Var h pc [.int .i64 cols]) (Vt : Var h pb [.int .i64 tab]) (Vw : Var h pw [.bool wrap])
    (hne : bo ≠ pc ∧ bo ≠ pw) (hov : ∀ y, blkOf ov0 = some y → y < h.size ∧ y ≠ pc ∧ y ≠ pw) (J0 : JO yb bo bf B fc i pre [] ov0 h) (ho : h.obj yb = some ob) (hyb : yb < h.size)
    (hobj : bo ≠ yb)
    (hy : ∀ (acc : List (Int × Int)) (f t : Int) (ov : Value) (h' : Heap), Wf h' → h.size ≤ h'.size → acc.length ≤ 10001 → JO yb bo bf B fc i pre acc ov h' → h'.obj yb = some ob →
      AYield prog yb #[.int .i64 f, .int .i64 t] h' (fun v h'' => v = .bool true ∧ ∃ ov', JO yb bo bf B fc i pre (acc ++ [(f, t)]) ov' h'' ∧ h''.obj yb = some ob ∧ Ch (fun x => x = bo ∨ blkOf ov = some x) h' h'' ∧ ∀ y, blkOf ov' = some y → h'.size ≤ y)) :
    ACalls prog 45 #[.func (.yield yb) #[] #[], pt px, pt pb, pt pw, pt pc] h
      (fun _ h' => ∃ ov', JO yb bo bf B fc i pre (rowsG cols wrap (unitsL line tab) 0 0) ov' h' ∧ h'.obj yb = some ob ∧ Ch (fun x => x = bo ∨ blkOf ov0 = some x) h h' ∧ ∀ y, blkOf ov' = some y → blkOf ov0 = some y ∨ h.size ≤ y) := by
  refine acalls_of_W' func45 rfl (by kernel_rfl) (by kernel_rfl) (by simp [ntmps45]) ?_
  intro H
  have hbo := J0.var.lt H
  have LX := Vx.load1 (P := prog) (t := 43) underlying43 rfl (i := 0)
  have LT' := Vt.load1 (P := prog) (t := 3) underlying3 rfl (i := 0)
  simp only [List.getElem?_cons_zero] at LX LT'
  have hpc := Vc.lt H
  have hpw := Vw.lt H
  simp only [wk, wt, wl, ↓reduceIte, Nat.reduceEqDiff, Nat.reduceAdd, Nat.zero_add, not_false_eq_true, not_true_eq_false, pt, LX, LT']
  refine (unitsOwn_ok ha G hline hlen).use ?_
  rintro l h2 ⟨uv, hu, UL2, K2⟩
  have hul : uv.length = (unitsL line tab).length := by rw [← hu]; simp
  have R2 : RS prog h2 5 cellsU l uv := UL2.own.1
  have hones : ∀ x, x ∈ uv → one x.2 = true := fun x hx => (UL2.txt x hx).one
  have hfr : ∀ y, blkOf l = some y → h.size ≤ y ∧ y < h2.size := fun y e => ⟨UL2.fresh e, (UL2.own.1.blk_lt e).1⟩
  have hok := unitsL_ok (line := line) (tab := tab)
  have hle2 := Ch.le K2
  have C0 : Ch (fun x => x = bo ∨ blkOf ov0 = some x) h h2 := Ch.mono K2 fun _ e => e.elim
  simp only [wk, wt, wl, ↓reduceIte, Nat.reduceEqDiff, Nat.reduceAdd, Nat.zero_add, not_false_eq_true, not_true_eq_false, R2.len underlying41]
  refine W_loop (fun tm h' => tm 0 = .func (.yield yb) #[] #[] ∧ tm 3 = pt pw ∧ tm 4 = pt pc ∧ tm 13 = l ∧ tm 14 = .int .i64 uv.length ∧ Ch (fun x => x = bo ∨ blkOf ov0 = some x) h h' ∧ h2.size ≤ h'.size ∧ RS prog h' 5 cellsU l uv ∧ Var h' pc [.int .i64 cols] ∧ Var h' pw [.bool wrap] ∧ h'.obj yb = some ob ∧
      ∃ (k : Nat) (f t : Int) (acc : List (Int × Int)) (ov : Value), tm 15 = .int .i64 k ∧ tm 6 = .int .i64 f ∧ tm 7 = .int .i64 t ∧ k ≤ uv.length ∧ acc.length ≤ k ∧ 0 ≤ f ∧ f ≤ 640000 ∧ JO yb bo bf B fc i pre acc ov h' ∧ (∀ y, blkOf ov = some y → blkOf ov0 = some y ∨ h2.size ≤ y) ∧
        acc ++ rowsG cols wrap ((unitsL line tab).drop k) f t = rowsG cols wrap (unitsL line tab) 0 0) (fun tm _ => (uv.length - intOf (tm 15)).toNat)
    ⟨(by first | rfl | (simp only [wk, wt, wl, ↓reduceIte, Nat.reduceEqDiff, Nat.reduceAdd, Nat.zero_add, not_false_eq_true, not_true_eq_false]; done) | (simp only [wk, wt, wl, ↓reduceIte, Nat.reduceEqDiff, Nat.reduceAdd, Nat.zero_add, not_false_eq_true, not_true_eq_false]; rfl)), (by first | rfl | (simp only [wk, wt, wl, ↓reduceIte, Nat.reduceEqDiff, Nat.reduceAdd, Nat.zero_add, not_false_eq_true, not_true_eq_false]; done) | (simp only [wk, wt, wl, ↓reduceIte, Nat.reduceEqDiff, Nat.reduceAdd, Nat.zero_add, not_false_eq_true, not_true_eq_false]; rfl)), (by first | rfl | (simp only [wk, wt, wl, ↓reduceIte, Nat.reduceEqDiff, Nat.reduceAdd, Nat.zero_add, not_false_eq_true, not_true_eq_false]; done) | (simp only [wk, wt, wl, ↓reduceIte, Nat.reduceEqDiff, Nat.reduceAdd, Nat.zero_add, not_false_eq_true, not_true_eq_false]; rfl)), (by first | rfl | (simp only [wk, wt, wl, ↓reduceIte, Nat.reduceEqDiff, Nat.reduceAdd, Nat.zero_add, not_false_eq_true, not_true_eq_false]; done) | (simp only [wk, wt, wl, ↓reduceIte, Nat.reduceEqDiff, Nat.reduceAdd, Nat.zero_add, not_false_eq_true, not_true_eq_false]; rfl)), (by first | rfl | (simp only [wk, wt, wl, ↓reduceIte, Nat.reduceEqDiff, Nat.reduceAdd, Nat.zero_add, not_false_eq_true, not_true_eq_false]; done) | (simp only [wk, wt, wl, ↓reduceIte, Nat.reduceEqDiff, Nat.reduceAdd, Nat.zero_add, not_false_eq_true, not_true_eq_false]; rfl)), C0, Nat.le_refl _, R2, Keeps.var H K2 Vc, Keeps.var H K2 Vw, by rw [K2.obj hyb]; exact ho, 0, 0, 0, [], ov0, (by first | rfl | (simp only [wk, wt, wl, ↓reduceIte, Nat.reduceEqDiff, Nat.reduceAdd, Nat.zero_add, not_false_eq_true, not_true_eq_false]; done) | (simp only [wk, wt, wl, ↓reduceIte, Nat.reduceEqDiff, Nat.reduceAdd, Nat.zero_add, not_false_eq_true, not_true_eq_false]; rfl)), (by first | rfl | (simp only [wk, wt, wl, ↓reduceIte, Nat.reduceEqDiff, Nat.reduceAdd, Nat.zero_add, not_false_eq_true, not_true_eq_false]; done) | (simp only [wk, wt, wl, ↓reduceIte, Nat.reduceEqDiff, Nat.reduceAdd, Nat.zero_add, not_false_eq_true, not_true_eq_false]; rfl)), (by first | rfl | (simp only [wk, wt, wl, ↓reduceIte, Nat.reduceEqDiff, Nat.reduceAdd, Nat.zero_add, not_false_eq_true, not_true_eq_false]; done) | (simp only [wk, wt, wl, ↓reduceIte, Nat.reduceEqDiff, Nat.reduceAdd, Nat.zero_add, not_false_eq_true, not_true_eq_false]; rfl)), by omega, by simp, by omega, by omega, J0.keeps H K2, fun y e => .inl e, rfl⟩ ?_
  rintro tm h' ⟨t0, t3, t4, t13, t14, C, hsz, R, Vc, Vw, ho', k, f, t, acc, ov, t15, t6, t7, hk, hal, hf0, hf1, J, hovn, hrow⟩
  have hul2 := hok.len
  have hnd : ∀ y, y < h2.size → y ≠ bo → ¬ blkOf ov0 = some y → ¬ (y = bo ∨ blkOf ov = some y) := fun y h1 h2' h3 e => e.elim h2' fun e => (hovn y e).elim h3 fun e => by omega
  have hndl : ∀ y, blkOf l = some y → ¬ (y = bo ∨ blkOf ov = some y) := fun y e => by
    obtain ⟨g1, g2⟩ := hfr y e
    exact hnd y g2 (by omega) fun e => by have := (hov y e).1; omega
  have hndc : ¬ (pc = bo ∨ blkOf ov = some pc) := hnd pc (by omega) (fun e => hne.1 e.symm) fun e => (hov pc e).2.1 rfl
  have hndw : ¬ (pw = bo ∨ blkOf ov = some pw) := hnd pw (by omega) (fun e => hne.2 e.symm) fun e => (hov pw e).2.2 rfl
  have next : ∀ {ov' : Value} {h'' : Heap}, Ch (fun x => x = bo ∨ blkOf ov = some x) h' h'' → Ch (fun x => x = bo ∨ blkOf ov0 = some x) h h'' := fun C' => C.then C' fun y e => e.elim (fun e => .inr (.inl e)) fun e => (hovn y e).elim (fun e => .inr (.inr e)) fun e => .inl (by omega)
  simp only [wk, wt, wl, ↓reduceIte, Nat.reduceEqDiff, Nat.reduceAdd, Nat.zero_add, not_false_eq_true, not_true_eq_false, t0, t3, t4, t13, t14, t15, t6, t7]
  refine condK_dec (fun hd => ?_) (fun hd => ?_)
  · have hj : k < uv.length := by omega
    obtain ⟨⟨u, tv⟩, hx⟩ : ∃ x, uv[k]? = some x := ⟨uv[k], by simp [hj]⟩
    have hux : (unitsL line tab)[k]? = some u := by rw [← hu, List.getElem?_map, hx]; rfl
    have hb := hok.each u (List.mem_of_getElem? hux)
    have hcc := hok.col1
    have hone : one tv = true := hones _ (List.mem_of_getElem? hx)
    have hld := unit_fld R hx
    have IX := Rd.index R underlying41 asz45 (q := .i64) (i := (k : Int)) (by omega) (by omega)
    simp only [Int.toNat_natCast] at IX
    simp (disch := omega) only [wk, wt, wl, ↓reduceIte, Nat.reduceEqDiff, Nat.reduceAdd, Nat.zero_add, not_false_eq_true, not_true_eq_false, t0, t3, t4, t13, t14, t15, t6, t7, IX, hld]
    have K3 := Keeps.new (Ch.wf C) 45 [Value.int IntKind.i64 0, Value.int IntKind.i64 0, Value.int IntKind.i64 0, Value.int IntKind.i64 0, Value.slice none 0 0]
    have V3 := Var.new (e := 45) (Ch.wf C) (cs := [Value.int IntKind.i64 0, Value.int IntKind.i64 0, Value.int IntKind.i64 0, Value.int IntKind.i64 0, Value.slice none 0 0])
    obtain ⟨h4, e4, V4, C4, z4⟩ := V3.store (P := prog) (t := 45) (v := .agg #[.int .i64 u.fr, .int .i64 u.to, .int .i64 u.col, .int .i64 u.wd, tv]) (i := 0) (Ch.wf K3) asz45 (by simp [Value.cells]) (by simp [Value.cells, one_int, hone])
    rw [e4]; clear e4
    simp only [Value.cells, over_all (xs := [Value.int IntKind.i64 0, Value.int IntKind.i64 0, Value.int IntKind.i64 0, Value.int IntKind.i64 0, Value.slice none 0 0]) (vs := [.int .i64 u.fr, .int .i64 u.to, .int .i64 u.col, .int .i64 u.wd, tv]) rfl] at V4
    have K14 := K3.step C4 (fun b hb => by omega)
    have hsz4 := Ch.le K14
    have hlt4 := V4.lt (Ch.wf K14)
    have C4' : Ch (fun x => x = bo ∨ blkOf ov = some x) h' h4 := Ch.mono K14 fun _ e => e.elim
    have CC4 := next (ov' := ov) C4'
    have R4 : RS prog h4 5 cellsU l uv := RS.keeps R K14
    have Vc4 := Keeps.var (Ch.wf C) K14 Vc
    have Vw4 := Keeps.var (Ch.wf C) K14 Vw
    have J4 := J.keeps (Ch.wf C) K14
    have ho4 : h4.obj yb = some ob := by rw [K14.obj (by have := Ch.le C; omega)]; exact ho'
    have WU := fun {hh : Heap} (V : Var hh h'.size [.int .i64 u.fr, .int .i64 u.to, .int .i64 u.col, .int .i64 u.wd, tv]) => And.intro (V.load1 (P := prog) (t := 3) underlying3 rfl (i := 2)) (V.load1 (P := prog) (t := 3) underlying3 rfl (i := 3))
    simp only [List.getElem?_cons_succ, List.getElem?_cons_zero] at WU
    have WC := fun {hh : Heap} (V : Var hh pc [.int .i64 cols]) => V.load1 (P := prog) (t := 3) underlying3 rfl (i := 0)
    have WW := fun {hh : Heap} (V : Var hh pw [.bool wrap]) => V.load1 (P := prog) (t := 4) underlying4 rfl (i := 0)
    simp only [List.getElem?_cons_zero] at WC WW
    have wend : IntKind.i64.wrap (u.col + u.wd) = u.col + u.wd := IntWalk.i64_in _ (by omega)
    have wfit : IntKind.i64.wrap (u.col + u.wd - f) = u.col + u.wd - f := IntWalk.i64_in _ (by omega)
    rw [dropAt hux] at hrow
    by_cases hc : wrap = false ∨ u.col = 0 ∨ u.col + u.wd - f ≤ cols
    · rw [rowsG, if_pos hc] at hrow
      have fin : ∀ tm' : Tm, True := fun _ => trivial
      have done : (∃ (k' : Nat), k' = k + 1) := ⟨_, rfl⟩
      cases hw : wrap with
      | false =>
        rw [hw] at Vw4 WW
        simp (disch := omega) only [wk, wt, wl, ↓reduceIte, Nat.reduceEqDiff, Nat.reduceAdd, Nat.zero_add, not_false_eq_true, not_true_eq_false, t0, t3, t4, t13, t14, t15, t6, t7, pt, WU V4, WW Vw4, wend, Bool.not_false]
        simp (disch := omega) only [wk, wt, wl, ↓reduceIte, Nat.reduceEqDiff, Nat.reduceAdd, Nat.zero_add, not_false_eq_true, not_true_eq_false, t0, t3, t4, t13, t14, t15, t6, t7, IntWalk.i64_in, intOf_int]
        rw [hw] at hrow
        exact ⟨⟨CC4, by omega, R4, Vc4, Vw4, ho4, k + 1, f, u.col + u.wd, acc, ov, by simp, rfl, rfl, by omega, by omega, hf0, hf1, J4, hovn, hrow⟩, by omega⟩
      | true =>
        rw [hw] at Vw4 WW
        rw [hw] at hrow
        by_cases hz : u.col = 0
        · have dz : decide (u.col = 0) = true := decide_eq_true hz
          simp (disch := omega) only [wk, wt, wl, ↓reduceIte, Nat.reduceEqDiff, Nat.reduceAdd, Nat.zero_add, not_false_eq_true, not_true_eq_false, t0, t3, t4, t13, t14, t15, t6, t7, pt, WU V4, WW Vw4, wend, Bool.not_true, dz]
          simp (disch := omega) only [wk, wt, wl, ↓reduceIte, Nat.reduceEqDiff, Nat.reduceAdd, Nat.zero_add, not_false_eq_true, not_true_eq_false, t0, t3, t4, t13, t14, t15, t6, t7, IntWalk.i64_in, intOf_int]
          exact ⟨⟨CC4, by omega, R4, Vc4, Vw4, ho4, k + 1, f, u.col + u.wd, acc, ov, by simp, rfl, rfl, by omega, by omega, hf0, hf1, J4, hovn, hrow⟩, by omega⟩
        · have dz : decide (u.col = 0) = false := decide_eq_false hz
          have dfit : decide (u.col + u.wd - f ≤ cols) = true := decide_eq_true (by rcases hc with e | e | e; (rw [hw] at e; cases e); exact absurd e hz; exact e)
          simp (disch := omega) only [wk, wt, wl, ↓reduceIte, Nat.reduceEqDiff, Nat.reduceAdd, Nat.zero_add, not_false_eq_true, not_true_eq_false, t0, t3, t4, t13, t14, t15, t6, t7, pt, WU V4, WW Vw4, WC Vc4, wend, wfit, Bool.not_true, dz, dfit]
          simp (disch := omega) only [wk, wt, wl, ↓reduceIte, Nat.reduceEqDiff, Nat.reduceAdd, Nat.zero_add, not_false_eq_true, not_true_eq_false, t0, t3, t4, t13, t14, t15, t6, t7, IntWalk.i64_in, intOf_int]
          exact ⟨⟨CC4, by omega, R4, Vc4, Vw4, ho4, k + 1, f, u.col + u.wd, acc, ov, by simp, rfl, rfl, by omega, by omega, hf0, hf1, J4, hovn, hrow⟩, by omega⟩
    · rw [rowsG, if_neg hc] at hrow
      obtain ⟨hw, hz, hft⟩ : wrap = true ∧ ¬ u.col = 0 ∧ ¬ u.col + u.wd - f ≤ cols := ⟨by cases wrap; exact absurd (.inl rfl) hc; rfl, fun e => hc (.inr (.inl e)), fun e => hc (.inr (.inr e))⟩
      subst hw
      have dz : decide (u.col = 0) = false := decide_eq_false hz
      have dfit : decide (u.col + u.wd - f ≤ cols) = false := decide_eq_false hft
      simp (disch := omega) only [wk, wt, wl, ↓reduceIte, Nat.reduceEqDiff, Nat.reduceAdd, Nat.zero_add, not_false_eq_true, not_true_eq_false, t0, t3, t4, t13, t14, t15, t6, t7, pt, WU V4, WW Vw4, WC Vc4, wend, wfit, Bool.not_true, dz, dfit, callV_yield]
      refine AYield.mono (hy acc f t ov h4 (Ch.wf K14) (by have := Ch.le C; omega) (by omega) J4 ho4) ?_
      rintro _ h5 ⟨rfl, ov', J5, ho5, C5, hn5⟩
      have hle5 := Ch.le C5
      have V5 := Ch.var (Ch.wf K14) C5 V4 fun e => e.elim (fun e => by have := Ch.le C; omega) fun e => (hovn _ e).elim (fun e => by have := (hov _ e).1; have := Ch.le C; omega) fun e => by
        have := (J.own.1.blk_lt ‹_›).1; omega
      have R5 : RS prog h5 5 cellsU l uv := Ch.rd C5 R4 hndl
      have Vc5 := Ch.var (Ch.wf K14) C5 Vc4 hndc
      have Vw5 := Ch.var (Ch.wf K14) C5 Vw4 hndw
      have CC5 : Ch (fun x => x = bo ∨ blkOf ov0 = some x) h h5 := CC4.then C5 fun y e => e.elim (fun e => .inr (.inl e)) fun e => (hovn y e).elim (fun e => .inr (.inr e)) fun e => .inl (by omega)
      simp (disch := omega) only [wk, wt, wl, ↓reduceIte, Nat.reduceEqDiff, Nat.reduceAdd, Nat.zero_add, not_false_eq_true, not_true_eq_false, t0, t3, t4, t13, t14, t15, t6, t7, Bool.not_true]
      refine adraw_order [(0, false), (1, false), (2, false), (3, false), (4, false), (5, false), (6, false), (7, false), (8, false)] mixed (by kernel_rfl) (by kernel_rfl) (by kernel_rfl) (by repeat (first | exact PF_retK | refine PF_thenK ?_ | refine PF_blockK ?_)) ?_
      simp (disch := omega) only [wk, wt, wl, ↓reduceIte, Nat.reduceEqDiff, Nat.reduceAdd, Nat.zero_add, not_false_eq_true, not_true_eq_false, dK_t, t0, t3, t4, t13, t14, t15, t6, t7, WU V5, wend, IntWalk.i64_in, intOf_int]
      exact ⟨⟨rfl, rfl, CC5, by omega, R5, Vc5, Vw5, ho5, k + 1, u.col, u.col + u.wd, acc ++ [(f, t)], ov', by simp, rfl, rfl, by omega, by simp only [List.length_append, List.length_singleton]; omega, by omega, by omega, J5, fun y e => .inr (by have := hn5 y e; omega), by rw [← hrow]; simp⟩, by omega⟩
  · rw [List.drop_of_length_le (by omega), rowsG] at hrow
    simp (disch := omega) only [wk, wt, wl, ↓reduceIte, Nat.reduceEqDiff, Nat.reduceAdd, Nat.zero_add, not_false_eq_true, not_true_eq_false, t0, t6, t7, callV_yield]
    refine AYield.mono (hy acc f t ov h' (Ch.wf C) (Ch.le C) (by omega) J ho') ?_
    rintro _ h5 ⟨rfl, ov', J5, ho5, C5, hn5⟩
    simp (disch := omega) only [wk, wt, wl, ↓reduceIte, Nat.reduceEqDiff, Nat.reduceAdd, Nat.zero_add, not_false_eq_true, not_true_eq_false]
    rw [hrow] at J5
    exact ⟨ov', J5, ho5, next (ov' := ov) C5, fun y e => .inr (by have := hn5 y e; omega)⟩
end Go.Proofs.YtmjdebeikcogkaaDoor.Am
end
section
/- Views: the contract of view.Rows, by a walk: a range over what view.rows hands back. -/
set_option linter.unusedSimpArgs false
set_option linter.unusedVariables false
set_option maxHeartbeats 4000000
set_option maxRecDepth 20000
namespace Go.Proofs.YtmjdebeikcogkaaDoor.Am
open Go Go.RowKit Go.Proofs.Tryd
theorem awpr_gen {P : Program} {n : Nat} {c : Code} {Q : Exit → Tm → Heap → Prop} {h : Heap} (p : Tm → Prop) {tm : Tm} (hp : p tm) (H : ∀ tm', p tm' → AWpR none P n c Q tm' h) : AWpR none P n c Q tm h := H tm hp
theorem W_range {P : Program} {n : Nat} {f : Operand} {ps : Array Tmp} {asg body : Code} {Q : Exit → Tm → Heap → Prop} {tm : Tm} {h : Heap} : W P n (.rangeFunc f ps asg body) Q tm h = AWpR none P n (.rangeFunc f ps asg body) Q tm h := propext Iff.rfl
/-- A row of some elements lies in no variable that is shorter. -/
theorem Rd.ne_var {P : Program} {h : Heap} {s n b : Nat} {v : Value} {cs vs : List Value} (R : Rd P h s v n cs) (V : Var h b vs) (hl : vs.length < n * s) : ∀ y, blkOf v = some y → y ≠ b := by
  intro y hy e
  subst e
  obtain ⟨_, h2⟩ := R
  obtain ⟨k, g1, g2, _⟩ := V
  rcases h2 with ⟨h0, _⟩ | ⟨b, o, c, k', rfl, _, hk, _, _, ho, _⟩
  · subst h0; omega
  · cases hy
    rw [g1] at hk; cases hk
    rw [g2] at ho; omega
theorem rangeH_obj {h : Heap} {n : Nat} {tm : Tm} {ps : Array Tmp} {asg body : Code} : (h.rangeH n tm ps asg body).obj (h.size + 1) = some (.loop n tm .ready none ps asg body) := by simp [Heap.rangeH, Heap.opush, Heap.oput, Heap.more]
theorem rangeH_size {h : Heap} {n : Nat} {tm : Tm} {ps : Array Tmp} {asg body : Code} : (h.rangeH n tm ps asg body).size = h.size + 2 := rfl
theorem clos_vars {h : Heap} {a : Value} {cols tab : Int} {wrap : Bool} (H : Wf h) :
    Keeps h ((((h.new 43 [a]).new 3 [.int .i64 cols]).new 3 [.int .i64 tab]).new 4 [.bool wrap]) ∧ Var ((((h.new 43 [a]).new 3 [.int .i64 cols]).new 3 [.int .i64 tab]).new 4 [.bool wrap]) h.size [a] ∧
    Var ((((h.new 43 [a]).new 3 [.int .i64 cols]).new 3 [.int .i64 tab]).new 4 [.bool wrap]) (h.size + 1) [.int .i64 cols] ∧ Var ((((h.new 43 [a]).new 3 [.int .i64 cols]).new 3 [.int .i64 tab]).new 4 [.bool wrap]) (h.size + 2) [.int .i64 tab] ∧
    Var ((((h.new 43 [a]).new 3 [.int .i64 cols]).new 3 [.int .i64 tab]).new 4 [.bool wrap]) (h.size + 3) [.bool wrap] ∧ ((((h.new 43 [a]).new 3 [.int .i64 cols]).new 3 [.int .i64 tab]).new 4 [.bool wrap]).size = h.size + 4 := by
  have K1 := Keeps.new H 43 [a]
  have V1 := Var.new (e := 43) H (cs := [a])
  have K2 := Keeps.new (Ch.wf K1) 3 [.int .i64 cols]
  have V2 := Var.new (e := 3) (Ch.wf K1) (cs := [.int .i64 cols])
  have K3 := Keeps.new (Ch.wf K2) 3 [.int .i64 tab]
  have V3 := Var.new (e := 3) (Ch.wf K2) (cs := [.int .i64 tab])
  have K4 := Keeps.new (Ch.wf K3) 4 [.bool wrap]
  have V4 := Var.new (e := 4) (Ch.wf K3) (cs := [.bool wrap])
  exact ⟨((K1.trans K2).trans K3).trans K4, Keeps.var (Ch.wf K3) K4 (Keeps.var (Ch.wf K2) K3 (Keeps.var (Ch.wf K1) K2 V1)), Keeps.var (Ch.wf K3) K4 (Keeps.var (Ch.wf K2) K3 V2), Keeps.var (Ch.wf K3) K4 V3, V4, rfl⟩
/-- What a round of the caller's does to what is the caller's own. -/
def RoundQ (yb bo bf B : Nat) (fc : List Value) (i : Int) (pre : List Rw) (acc : List (Int × Int)) (f t : Int) (ov : Value) (ob : AObj) (h' : Heap) (v : Value) (h'' : Heap) : Prop :=
  v = .bool true ∧ ∃ ov', JO yb bo bf B fc i pre (acc ++ [(f, t)]) ov' h'' ∧ h''.obj yb = some ob ∧ Ch (fun x => x = bo ∨ blkOf ov = some x) h' h'' ∧ ∀ y, blkOf ov' = some y → h'.size ≤ y
theorem range_iter {n : Nat} {tm : Tm} {x : Operand} {ps : Array Tmp} {asg body : Code} {Q : Exit → Tm → Heap → Prop} {hc : Heap} {a : Value} {line : List Int} {cols tab : Int} {wrap : Bool} {bo bf B px pc pb pw : Nat} {fc : List Value} {i : Int} {pre : List Rw} {ov0 : Value}
    (H : Wf hc) (hok : codeOk prog n (.rangeFunc x ps asg body) = true) (hps : ps.size = 2) (hx : ev tm x = .func (.func 45) #[] #[pt px, pt pb, pt pw, pt pc])
    (ha : RdI prog hc .i32 a line) (G : Gl hc) (hline : ∀ j, isR (line.getD j 0)) (hlen : line.length ≤ 10000) (Vx : Var hc px [a]) (Vc : Var hc pc [.int .i64 cols]) (Vt : Var hc pb [.int .i64 tab]) (Vw : Var hc pw [.bool wrap])
    (hne : bo ≠ pc ∧ bo ≠ pw) (hov : ∀ y, blkOf ov0 = some y → y < hc.size ∧ y ≠ pc ∧ y ≠ pw ∧ y ≠ bo ∧ y ≠ bf) (V0 : Var hc bo [ov0]) (F0 : Var hc bf fc) (O0 : OS prog B hc 4 cR ov0 pre)
    (hy : ∀ (acc : List (Int × Int)) (f t : Int) (ov : Value) (h' : Heap), Wf h' → hc.size + 2 ≤ h'.size → acc.length ≤ 10001 → JO (hc.size + 1) bo bf B fc i pre acc ov h' → h'.obj (hc.size + 1) = some (.loop n tm .ready none ps asg body) →
      W prog n asg (thenK (fun tm1 h1 => h1.obj (hc.size + 1) = some (.loop n tm .ready none ps asg body) ∧ W prog n body (roundK (hc.size + 1) n tm ps asg body (RoundQ (hc.size + 1) bo bf B fc i pre acc f t ov (.loop n tm .ready none ps asg body) h')) tm1 (h1.oput (hc.size + 1) (.loop n tm .busy none ps asg body))) (fun _ _ _ => False)) (bindTm ps #[.int .i64 f, .int .i64 t] tm) h')
    (hQ : ∀ ov' h', Var h' bo [ov'] → OS prog B h' 4 cR ov' (pre ++ (rowsG cols wrap (unitsL line tab) 0 0).map (mkR i)) → Ch (fun x => x = bo ∨ blkOf ov0 = some x) hc h' → (∀ y, blkOf ov' = some y → y ≠ bo ∧ (blkOf ov0 = some y ∨ hc.size ≤ y)) → Q .normal tm h') :
    AWpR none prog n (.rangeFunc x ps asg body) Q tm hc := by
  refine range_of hok hx (by kernel_rfl) ?_
  have KR := Keeps.rangeH H n tm ps asg body
  have hbo := V0.lt H
  have J0 : JO (hc.size + 1) bo bf B fc i pre [] ov0 (hc.rangeH n tm ps asg body) := ⟨Keeps.var H KR V0, Keeps.var H KR F0, by simpa using O0.keeps KR, fun y e => by obtain ⟨g1, g2, g3, g4, g5⟩ := hov y e; exact ⟨by omega, g4, g5⟩⟩
  have hall := hok
  simp only [codeOk, Bool.and_eq_true] at hall
  have I := rowsIter_ok (cols := cols) (tab := tab) (ha.keeps KR) (G.keeps KR) hline hlen (Keeps.var H KR Vx) (Keeps.var H KR Vc) (Keeps.var H KR Vt) (Keeps.var H KR Vw) hne (fun y e => by obtain ⟨g1, g2, g3, _⟩ := hov y e; exact ⟨by rw [rangeH_size]; omega, g2, g3⟩) J0 rangeH_obj (by rw [rangeH_size]; omega) (by omega)
    (fun acc f t ov h' w1 w2 w3 w4 w5 => AYield.of w5 (by rw [hps]; rfl) (by simp only [Bool.and_eq_true]; exact ⟨⟨⟨hall.1.1.1.2, hall.1.1.2⟩, hall.1.2⟩, hall.2⟩) (hy acc f t ov h' w1 (by rw [rangeH_size] at w2; exact w2) w3 w4 w5))
  have e : (#[] ++ #[Value.func (.yield (hc.size + 1)) #[] #[]] ++ #[pt px, pt pb, pt pw, pt pc] : Array Value) = #[.func (.yield (hc.size + 1)) #[] #[], pt px, pt pb, pt pw, pt pc] := by simp
  rw [e]
  refine I.use ?_
  rintro _ h' ⟨ov', J, ho, C, hn⟩
  refine ⟨.ready, none, ho, by simp, ?_⟩
  show Q .normal tm _
  have C' : Ch (fun x => x = bo ∨ blkOf ov0 = some x) hc h' := (Ch.mono KR fun _ e => e.elim : Ch (fun x => x = bo ∨ blkOf ov0 = some x) hc _).then C fun b e => .inr e
  refine hQ ov' _ J.var J.own ?_ fun y e => ⟨(J.nb y e).2.1, (hn y e).imp id fun g => by rw [rangeH_size] at g; omega⟩
  obtain ⟨c1, c2, c3, c4, c5, c6⟩ := C'
  refine ⟨c1, c2, c3, c4, c5, fun x hx hd => ?_⟩
  show (if x = hc.size + 1 then _ else h'.obj x) = hc.obj x
  rw [if_neg (by omega)]; exact c6 x hx hd
theorem viewRows_ok {v fv : Value} {ls : List (List Int)} {l : List F} {cols tab : Int} {wrap : Bool} {h : Heap} (T : LT h v ls) (R : FR h fv l) (G : Gl h) (HT : TextOk ls) (hls : ls.length ≤ 300) (hl : l.length ≤ 2305843009213693952) (hn : nearF l = true) :
    ACalls prog 11 #[v, fv, .int .i64 cols, .int .i64 tab, .bool wrap] h (fun y h' => ∃ r, RowsR (rightOr l) ls.length 0 r ∧ r.length ≤ 3000 ∧ RR h' y (viewL ls cols tab wrap r) ∧ Keeps h h' ∧ ∀ b, blkOf y = some b → h.size ≤ b) := by
  refine acalls_of_W' func11 rfl (by kernel_rfl) (by kernel_rfl) (by simp [ntmps11]) ?_
  intro H
  simp only [wk, wt, wl, ↓reduceIte, Nat.reduceEqDiff, Nat.reduceAdd, Nat.zero_add, not_false_eq_true, not_true_eq_false]
  refine (right_ok R (by omega)).use ?_
  rintro _ h2 ⟨rfl, K2⟩
  cases hr : rightB l with
  | true =>
    simp only [wk, wt, wl, ↓reduceIte, Nat.reduceEqDiff, Nat.reduceAdd, Nat.zero_add, not_false_eq_true, not_true_eq_false, Bool.not_true]
    have K3 := Keeps.new (Ch.wf K2) 28 [Value.slice none 0 0]
    have V3 := Var.new (e := 28) (Ch.wf K2) (cs := [Value.slice none 0 0])
    have K03 := K2.trans K3
    have T3 := T.keeps K03
    simp (disch := omega) only [wk, wt, wl, ↓reduceIte, Nat.reduceEqDiff, Nat.reduceAdd, Nat.zero_add, not_false_eq_true, not_true_eq_false, T3.len]
    refine (rows_ok (n := ls.length) (RS.keeps R K03) (by omega) hn (by omega) hr).use ?_
    rintro rv h4 ⟨r, hrows, RV, hrl, K4⟩
    have hin := rowsR_in hrows (Int.le_refl _)
    have K04 := K03.trans K4
    have V4 := Keeps.var (Ch.wf K3) K4 V3
    have hbo : h.size ≤ h2.size := Ch.le K2
    have hbo4 := V4.lt (Ch.wf K4)
    have T4 := T.keeps K04
    simp (disch := omega) only [wk, wt, wl, ↓reduceIte, Nat.reduceEqDiff, Nat.reduceAdd, Nat.zero_add, not_false_eq_true, not_true_eq_false, RV.len underlying23]
    generalize hbb : h2.size = bo at *
    refine W_loop (fun tm h' => Ch (fun x => x = bo) h4 h' ∧ tm 0 = v ∧ tm 2 = .int .i64 cols ∧ tm 3 = .int .i64 tab ∧ tm 4 = .bool wrap ∧ tm 11 = pt bo ∧ tm 22 = rv ∧ tm 23 = .int .i64 r.length ∧ ∃ (k : Nat) (ov : Value), tm 24 = .int .i64 k ∧ k ≤ r.length ∧ Var h' bo [ov] ∧ (∀ y, blkOf ov = some y → h4.size ≤ y) ∧ OS prog h4.size h' 4 cR ov (viewL ls cols tab wrap (r.take k)))
      (fun tm _ => (r.length - intOf (tm 24)).toNat) ⟨Ch.mono (Keeps.refl (Ch.wf K4)) (fun _ e => e.elim), (by first | rfl | (simp only [wk, wt, wl, ↓reduceIte, Nat.reduceEqDiff, Nat.reduceAdd, Nat.zero_add, not_false_eq_true, not_true_eq_false]; done) | (simp only [wk, wt, wl, ↓reduceIte, Nat.reduceEqDiff, Nat.reduceAdd, Nat.zero_add, not_false_eq_true, not_true_eq_false]; rfl)), (by first | rfl | (simp only [wk, wt, wl, ↓reduceIte, Nat.reduceEqDiff, Nat.reduceAdd, Nat.zero_add, not_false_eq_true, not_true_eq_false]; done) | (simp only [wk, wt, wl, ↓reduceIte, Nat.reduceEqDiff, Nat.reduceAdd, Nat.zero_add, not_false_eq_true, not_true_eq_false]; rfl)), (by first | rfl | (simp only [wk, wt, wl, ↓reduceIte, Nat.reduceEqDiff, Nat.reduceAdd, Nat.zero_add, not_false_eq_true, not_true_eq_false]; done) | (simp only [wk, wt, wl, ↓reduceIte, Nat.reduceEqDiff, Nat.reduceAdd, Nat.zero_add, not_false_eq_true, not_true_eq_false]; rfl)), (by first | rfl | (simp only [wk, wt, wl, ↓reduceIte, Nat.reduceEqDiff, Nat.reduceAdd, Nat.zero_add, not_false_eq_true, not_true_eq_false]; done) | (simp only [wk, wt, wl, ↓reduceIte, Nat.reduceEqDiff, Nat.reduceAdd, Nat.zero_add, not_false_eq_true, not_true_eq_false]; rfl)), (by first | rfl | (simp only [wk, wt, wl, ↓reduceIte, Nat.reduceEqDiff, Nat.reduceAdd, Nat.zero_add, not_false_eq_true, not_true_eq_false]; done) | (simp only [wk, wt, wl, ↓reduceIte, Nat.reduceEqDiff, Nat.reduceAdd, Nat.zero_add, not_false_eq_true, not_true_eq_false]; rfl)), (by first | rfl | (simp only [wk, wt, wl, ↓reduceIte, Nat.reduceEqDiff, Nat.reduceAdd, Nat.zero_add, not_false_eq_true, not_true_eq_false]; done) | (simp only [wk, wt, wl, ↓reduceIte, Nat.reduceEqDiff, Nat.reduceAdd, Nat.zero_add, not_false_eq_true, not_true_eq_false]; rfl)), (by first | rfl | (simp only [wk, wt, wl, ↓reduceIte, Nat.reduceEqDiff, Nat.reduceAdd, Nat.zero_add, not_false_eq_true, not_true_eq_false]; done) | (simp only [wk, wt, wl, ↓reduceIte, Nat.reduceEqDiff, Nat.reduceAdd, Nat.zero_add, not_false_eq_true, not_true_eq_false]; rfl)), 0, .slice none 0 0, (by first | rfl | (simp only [wk, wt, wl, ↓reduceIte, Nat.reduceEqDiff, Nat.reduceAdd, Nat.zero_add, not_false_eq_true, not_true_eq_false]; done) | (simp only [wk, wt, wl, ↓reduceIte, Nat.reduceEqDiff, Nat.reduceAdd, Nat.zero_add, not_false_eq_true, not_true_eq_false]; rfl)), by omega, V4, (fun y e => by cases e), OS.nil⟩ ?_
    rintro tm h' ⟨C, t0, t2, t3, t4, t11, t22, t23, k, ov, t24, hk, Vo, hov, O⟩
    have KK := K04.step C fun b e => by subst e; exact hbo
    have T' := T.keeps KK
    have G' := G.keeps KK
    have hle4 := Ch.le C
    simp (disch := omega) only [wk, wt, wl, ↓reduceIte, Nat.reduceEqDiff, Nat.reduceAdd, Nat.zero_add, not_false_eq_true, not_true_eq_false, t0, t2, t3, t4, t11, t22, t23, t24]
    refine condK_dec (fun hd => ?_) (fun hd => ?_)
    · have hk1 : k < r.length := by omega
      obtain ⟨f, hx⟩ : ∃ f, r[k]? = some f := ⟨r[k], by simp [hk1]⟩
      have hbr := Rd.ne_var RV V4 (by simp only [List.length_singleton]; omega)
      have RV' : FR h' rv r := Ch.rd C RV hbr
      obtain ⟨F0, F1, F2, F3⟩ := FR.flds RV' hx
      have IX := Rd.index RV' underlying23 asz56 (q := .i64) (i := (k : Int)) (by omega) (by omega)
      simp only [Int.toNat_natCast] at IX
      obtain ⟨g1, g2, g3, g4⟩ := hin f (List.mem_of_getElem? hx)
      have hvt := viewL_take (ls := ls) (cols := cols) (tab := tab) (wrap := wrap) hx
      have hvl := viewL_len HT (cols := cols) (tab := tab) (wrap := wrap) (r := r.take k)
      have htk : (r.take k).length ≤ 3000 := by rw [List.length_take]; omega
      simp (disch := omega) only [wk, wt, wl, ↓reduceIte, Nat.reduceEqDiff, Nat.reduceAdd, Nat.zero_add, not_false_eq_true, not_true_eq_false, t0, t2, t3, t4, t11, t22, t23, t24, IX, F3]
      have K5 := Keeps.new (Ch.wf C) 56 [Value.int IntKind.i64 0, Value.int IntKind.i64 0, Value.bool false]
      have V5 := Var.new (e := 56) (Ch.wf C) (cs := [Value.int IntKind.i64 0, Value.int IntKind.i64 0, Value.bool false])
      obtain ⟨h5, e5, Vf, C5, z5⟩ := V5.store (P := prog) (t := 56) (v := .agg #[.int .i64 f.fr, .int .i64 f.to, .bool f.cl]) (i := 0) (Ch.wf K5) asz56 (by simp [Value.cells]) (by simp [Value.cells, one])
      rw [e5]; clear e5
      simp only [Value.cells, over_all (xs := [Value.int IntKind.i64 0, Value.int IntKind.i64 0, Value.bool false]) (vs := [.int .i64 f.fr, .int .i64 f.to, .bool f.cl]) rfl] at Vf
      have K15 := K5.step C5 (fun b hb => by omega)
      clear K5 V5 C5
      have hle5 := Ch.le K15
      have hbf := Vf.lt (Ch.wf K15)
      have Vo5 := Keeps.var (Ch.wf C) K15 Vo
      have O5 := O.keeps K15
      have hbo' := Vo.lt (Ch.wf C)
      have C05 : Ch (fun x => x = bo) h4 h5 := C.then (D' := fun _ => False) K15 fun b e => e.elim
      have WF := fun {hh : Heap} (V : Var hh h'.size [.int .i64 f.fr, .int .i64 f.to, .bool f.cl]) => And.intro (V.load1 (P := prog) (t := 3) underlying3 rfl (i := 0)) (And.intro (V.load1 (P := prog) (t := 3) underlying3 rfl (i := 1)) (V.load1 (P := prog) (t := 4) underlying4 rfl (i := 2)))
      simp only [List.getElem?_cons_succ, List.getElem?_cons_zero] at WF
      have WO := fun {hh : Heap} {x : Value} (V : Var hh bo [x]) => V.load1 (P := prog) (t := 28) underlying28 rfl (i := 0)
      simp only [List.getElem?_cons_zero] at WO
      cases hcl : f.cl with
      | true =>
        have hro : rowsOf ls cols tab wrap f = [⟨f.fr, 0, f.to + 1 - f.fr, true⟩] := by simp [rowsOf, hcl]
        rw [hcl] at Vf WF
        have w1 : IntKind.i64.wrap (f.to + 1) = f.to + 1 := IntWalk.i64_in _ (by omega)
        have w2 : IntKind.i64.wrap (f.to + 1 - f.fr) = f.to + 1 - f.fr := IntWalk.i64_in _ (by omega)
        simp (disch := omega) only [wk, wt, wl, ↓reduceIte, Nat.reduceEqDiff, Nat.reduceAdd, Nat.zero_add, not_false_eq_true, not_true_eq_false, t0, t2, t3, t4, t11, t22, t23, t24, pt, WF Vf, WO Vo5, w1, w2, build_r023, bsr]
        obtain ⟨v2, h6, e2, O2, C2, RD2, ev2⟩ := O5.append1 (P := prog) (Ch.wf K15) (by omega) underlying28 elem37 fits37 (by decide) (by decide) ⟨f.fr, 0, f.to + 1 - f.fr, true⟩ rfl (by omega)
        rw [e2]; clear e2
        have Vo6 := Ch.var (Ch.wf K15) C2 Vo5 fun e => by have := hov _ e.1; omega
        obtain ⟨h7, e7, Vo7, C7, z7⟩ := Vo6.store1 (P := prog) (t := 28) (v := v2) (i := 0) (Ch.wf C2) asz28 (by simp) (by rw [ev2]; rfl)
        simp only [List.set_cons_zero] at Vo7
        have C06 : Ch (fun x => x = bo) h4 h6 := C05.then C2 fun b e => .inl (by have := hov _ e.1; omega)
        have C07 : Ch (fun x => x = bo) h4 h7 := C06.then C7 fun b e => .inr e
        have O7 : OS prog h4.size h7 4 cR v2 (viewL ls cols tab wrap (r.take k) ++ [⟨f.fr, 0, f.to + 1 - f.fr, true⟩]) := Ch.own C7 O2 fun y e e' => by rw [ev2] at e; simp only [blkOf, Option.some.injEq] at e; omega
        simp (disch := omega) only [wk, wt, wl, ↓reduceIte, Nat.reduceEqDiff, Nat.reduceAdd, Nat.zero_add, not_false_eq_true, not_true_eq_false, t0, t2, t3, t4, t11, t22, t23, t24, pt, e7, IntWalk.i64_in, intOf_int]
        exact ⟨⟨C07, k + 1, v2, by simp, by omega, Vo7, (fun y e => by rw [ev2] at e; simp only [blkOf, Option.some.injEq] at e; omega), by rw [hvt, hro]; exact O7⟩, by omega⟩
      | false =>
        obtain ⟨i, xs, hfi, hil, hxs, hgd, hrn, hxl⟩ := HT.get (f := f) (by omega) (by omega)
        have T5 := T'.keeps K15
        obtain ⟨xv, A1, A2⟩ := T5.at hxs
        have hro : rowsOf ls cols tab wrap f = (rowsG (colsZ cols) wrap (unitsL xs tab) 0 0).map (mkR f.fr) := by unfold rowsOf; rw [if_neg (by simp [hcl]), hgd]
        have hrl2 := rowsOf_len HT (cols := cols) (tab := tab) (wrap := wrap) (f := f)
        rw [hro, List.length_map] at hrl2
        rw [hcl] at Vf WF
        have WF' := WF Vf
        rw [hfi] at WF'
        have hcz : (if cols < 1 then 1 else cols) = colsZ cols := rfl
        simp (disch := omega) only [wk, wt, wl, ↓reduceIte, Nat.reduceEqDiff, Nat.reduceAdd, Nat.zero_add, not_false_eq_true, not_true_eq_false, t0, t2, t3, t4, t11, t22, t23, t24, pt, WF', T5.index hil, A1, abuiltin_max, hcz]
        refine (viewrows_ok (wrap := wrap) (tab := tab) A2.one).use_pure ?_
        simp (disch := omega) only [wk, wt, wl, ↓reduceIte, Nat.reduceEqDiff, Nat.reduceAdd, Nat.zero_add, not_false_eq_true, not_true_eq_false, W_range]
        refine awpr_gen (fun tm' => tm' 0 = v ∧ tm' 2 = .int .i64 cols ∧ tm' 3 = .int .i64 tab ∧ tm' 4 = .bool wrap ∧ tm' 11 = pt bo ∧ tm' 13 = pt h'.size ∧ tm' 22 = rv ∧ tm' 23 = .int .i64 r.length ∧ tm' 24 = .int .i64 k ∧ tm' 51 = .func (.func 45) #[] #[pt h5.size, pt (h5.size + 2), pt (h5.size + 3), pt (h5.size + 1)])
          ⟨(by first | rfl | (simp only [wk, wt, wl, ↓reduceIte, Nat.reduceEqDiff, Nat.reduceAdd, Nat.zero_add, not_false_eq_true, not_true_eq_false]; done) | (simp only [wk, wt, wl, ↓reduceIte, Nat.reduceEqDiff, Nat.reduceAdd, Nat.zero_add, not_false_eq_true, not_true_eq_false]; rfl) | (simp only [wk, wt, wl, ↓reduceIte, Nat.reduceEqDiff, Nat.reduceAdd, Nat.zero_add, not_false_eq_true, not_true_eq_false, t0]; done) | (simp only [wk, wt, wl, ↓reduceIte, Nat.reduceEqDiff, Nat.reduceAdd, Nat.zero_add, not_false_eq_true, not_true_eq_false, t0]; rfl)), (by first | rfl | (simp only [wk, wt, wl, ↓reduceIte, Nat.reduceEqDiff, Nat.reduceAdd, Nat.zero_add, not_false_eq_true, not_true_eq_false]; done) | (simp only [wk, wt, wl, ↓reduceIte, Nat.reduceEqDiff, Nat.reduceAdd, Nat.zero_add, not_false_eq_true, not_true_eq_false]; rfl) | (simp only [wk, wt, wl, ↓reduceIte, Nat.reduceEqDiff, Nat.reduceAdd, Nat.zero_add, not_false_eq_true, not_true_eq_false, t2]; done) | (simp only [wk, wt, wl, ↓reduceIte, Nat.reduceEqDiff, Nat.reduceAdd, Nat.zero_add, not_false_eq_true, not_true_eq_false, t2]; rfl)), (by first | rfl | (simp only [wk, wt, wl, ↓reduceIte, Nat.reduceEqDiff, Nat.reduceAdd, Nat.zero_add, not_false_eq_true, not_true_eq_false]; done) | (simp only [wk, wt, wl, ↓reduceIte, Nat.reduceEqDiff, Nat.reduceAdd, Nat.zero_add, not_false_eq_true, not_true_eq_false]; rfl) | (simp only [wk, wt, wl, ↓reduceIte, Nat.reduceEqDiff, Nat.reduceAdd, Nat.zero_add, not_false_eq_true, not_true_eq_false, t3]; done) | (simp only [wk, wt, wl, ↓reduceIte, Nat.reduceEqDiff, Nat.reduceAdd, Nat.zero_add, not_false_eq_true, not_true_eq_false, t3]; rfl)), (by first | rfl | (simp only [wk, wt, wl, ↓reduceIte, Nat.reduceEqDiff, Nat.reduceAdd, Nat.zero_add, not_false_eq_true, not_true_eq_false]; done) | (simp only [wk, wt, wl, ↓reduceIte, Nat.reduceEqDiff, Nat.reduceAdd, Nat.zero_add, not_false_eq_true, not_true_eq_false]; rfl) | (simp only [wk, wt, wl, ↓reduceIte, Nat.reduceEqDiff, Nat.reduceAdd, Nat.zero_add, not_false_eq_true, not_true_eq_false, t4]; done) | (simp only [wk, wt, wl, ↓reduceIte, Nat.reduceEqDiff, Nat.reduceAdd, Nat.zero_add, not_false_eq_true, not_true_eq_false, t4]; rfl)), (by first | rfl | (simp only [wk, wt, wl, ↓reduceIte, Nat.reduceEqDiff, Nat.reduceAdd, Nat.zero_add, not_false_eq_true, not_true_eq_false]; done) | (simp only [wk, wt, wl, ↓reduceIte, Nat.reduceEqDiff, Nat.reduceAdd, Nat.zero_add, not_false_eq_true, not_true_eq_false]; rfl) | (simp only [wk, wt, wl, ↓reduceIte, Nat.reduceEqDiff, Nat.reduceAdd, Nat.zero_add, not_false_eq_true, not_true_eq_false, t11]; done) | (simp only [wk, wt, wl, ↓reduceIte, Nat.reduceEqDiff, Nat.reduceAdd, Nat.zero_add, not_false_eq_true, not_true_eq_false, t11]; rfl)), (by first | rfl | (simp only [wk, wt, wl, ↓reduceIte, Nat.reduceEqDiff, Nat.reduceAdd, Nat.zero_add, not_false_eq_true, not_true_eq_false]; done) | (simp only [wk, wt, wl, ↓reduceIte, Nat.reduceEqDiff, Nat.reduceAdd, Nat.zero_add, not_false_eq_true, not_true_eq_false]; rfl)), (by first | rfl | (simp only [wk, wt, wl, ↓reduceIte, Nat.reduceEqDiff, Nat.reduceAdd, Nat.zero_add, not_false_eq_true, not_true_eq_false]; done) | (simp only [wk, wt, wl, ↓reduceIte, Nat.reduceEqDiff, Nat.reduceAdd, Nat.zero_add, not_false_eq_true, not_true_eq_false]; rfl) | (simp only [wk, wt, wl, ↓reduceIte, Nat.reduceEqDiff, Nat.reduceAdd, Nat.zero_add, not_false_eq_true, not_true_eq_false, t22]; done) | (simp only [wk, wt, wl, ↓reduceIte, Nat.reduceEqDiff, Nat.reduceAdd, Nat.zero_add, not_false_eq_true, not_true_eq_false, t22]; rfl)), (by first | rfl | (simp only [wk, wt, wl, ↓reduceIte, Nat.reduceEqDiff, Nat.reduceAdd, Nat.zero_add, not_false_eq_true, not_true_eq_false]; done) | (simp only [wk, wt, wl, ↓reduceIte, Nat.reduceEqDiff, Nat.reduceAdd, Nat.zero_add, not_false_eq_true, not_true_eq_false]; rfl) | (simp only [wk, wt, wl, ↓reduceIte, Nat.reduceEqDiff, Nat.reduceAdd, Nat.zero_add, not_false_eq_true, not_true_eq_false, t23]; done) | (simp only [wk, wt, wl, ↓reduceIte, Nat.reduceEqDiff, Nat.reduceAdd, Nat.zero_add, not_false_eq_true, not_true_eq_false, t23]; rfl)), (by first | rfl | (simp only [wk, wt, wl, ↓reduceIte, Nat.reduceEqDiff, Nat.reduceAdd, Nat.zero_add, not_false_eq_true, not_true_eq_false]; done) | (simp only [wk, wt, wl, ↓reduceIte, Nat.reduceEqDiff, Nat.reduceAdd, Nat.zero_add, not_false_eq_true, not_true_eq_false]; rfl) | (simp only [wk, wt, wl, ↓reduceIte, Nat.reduceEqDiff, Nat.reduceAdd, Nat.zero_add, not_false_eq_true, not_true_eq_false, t24]; done) | (simp only [wk, wt, wl, ↓reduceIte, Nat.reduceEqDiff, Nat.reduceAdd, Nat.zero_add, not_false_eq_true, not_true_eq_false, t24]; rfl)), (by first | rfl | (simp only [wk, wt, wl, ↓reduceIte, Nat.reduceEqDiff, Nat.reduceAdd, Nat.zero_add, not_false_eq_true, not_true_eq_false]; done) | (simp only [wk, wt, wl, ↓reduceIte, Nat.reduceEqDiff, Nat.reduceAdd, Nat.zero_add, not_false_eq_true, not_true_eq_false]; rfl))⟩ ?_
        rintro tm1 ⟨u0, u2, u3, u4, u11, u13, u22, u23, u24, u51⟩
        obtain ⟨KC, Vx, Vc, Vt, Vw, hzc⟩ := clos_vars (a := xv) (cols := colsZ cols) (tab := tab) (wrap := wrap) (Ch.wf K15)
        generalize (((h5.new 43 [xv]).new 3 [.int .i64 (colsZ cols)]).new 3 [.int .i64 tab]).new 4 [.bool wrap] = hc at *
        have Voc := Keeps.var (Ch.wf K15) KC Vo5
        have Vfc := Keeps.var (Ch.wf K15) KC Vf
        have hlev : ∀ y, blkOf ov = some y → y < h'.size := fun y e => (O.rs.blk_lt e).1
        refine range_iter (i := f.fr) (bf := h'.size) (B := h4.size) (pre := viewL ls cols tab wrap (r.take k)) (Ch.wf KC) (by kernel_rfl) rfl (show ev tm1 (.tmp 51) = _ from u51) (A2.keeps KC) ((G'.keeps K15).keeps KC) hrn hxl Vx Vc Vt Vw ⟨by omega, by omega⟩
          (fun y e => by have g1 := hov y e; have g2 := hlev y e; exact ⟨by omega, by omega, by omega, by omega, by omega⟩) Voc Vfc (O5.keeps KC) ?_ ?_
        · intro acc fq tq ov2 h6 w1 w2 w3 J w5
          simp (disch := omega) only [wk, wt, wl, ↓reduceIte, Nat.reduceEqDiff, Nat.reduceAdd, Nat.zero_add, not_false_eq_true, not_true_eq_false, bind2]
          refine ⟨w5, ?_⟩
          generalize hBe : Heap.oput h6 _ _ = hB
          have VB : Var hB bo [ov2] := by rw [← hBe]; exact J.var
          have FB : Var hB h'.size [Value.int IntKind.i64 f.fr, Value.int IntKind.i64 f.to, Value.bool false] := by rw [← hBe]; exact J.fol
          have OB : OS prog h4.size hB 4 cR ov2 (viewL ls cols tab wrap (r.take k) ++ acc.map (mkR f.fr)) := by rw [← hBe]; exact J.own
          have WB : Wf hB := by rw [← hBe]; exact w1
          have zB : hB.size = h6.size := by rw [← hBe]; rfl
          have nb := J.nb
          simp (disch := omega) only [wk, wt, wl, ↓reduceIte, Nat.reduceEqDiff, Nat.reduceAdd, Nat.zero_add, not_false_eq_true, not_true_eq_false, u11, u13, pt, WO VB, WF FB, build_r012, bsr]
          obtain ⟨v2, h7, e2, O2, C2, RD2, ev2⟩ := OB.append1 (P := prog) WB (by omega) underlying28 elem37 fits37 (by decide) (by decide) ⟨f.fr, fq, tq, false⟩ rfl (by simp only [List.length_append, List.length_map]; omega)
          rw [e2]; clear e2
          have V7 := Ch.var WB C2 VB fun e => (nb _ e.1).2.1 rfl
          have F7 := Ch.var WB C2 FB fun e => (nb _ e.1).2.2 rfl
          obtain ⟨h8, e8, V8, C8, z8⟩ := V7.store1 (P := prog) (t := 28) (v := v2) (i := 0) (Ch.wf C2) asz28 (by simp) (by rw [ev2]; rfl)
          simp only [List.set_cons_zero] at V8
          have F8 := Ch.var (Ch.wf C2) C8 F7 (by omega)
          have O8 := Ch.own C8 O2 (fun y e e' => by rw [ev2] at e; simp only [blkOf, Option.some.injEq] at e; omega)
          have C78 : Ch (fun x => x = bo ∨ blkOf ov2 = some x) hB h8 := (C2.mono (D' := fun x => x = bo ∨ blkOf ov2 = some x) fun b e => .inr e.1).then C8 fun b e => .inr (.inl e)
          have hob8 := C78.obj (b := hc.size + 1) (by omega) fun e => e.elim (fun e => by omega) fun e => (nb _ e).1 rfl
          rw [← hBe] at hob8
          simp (disch := omega) only [wk, wt, wl, ↓reduceIte, Nat.reduceEqDiff, Nat.reduceAdd, Nat.zero_add, not_false_eq_true, not_true_eq_false, u11, pt, e8]
          simp only [roundK]
          refine ⟨by rw [hob8]; simp [Heap.oput], rfl, v2, ⟨V8, F8, ?_, fun y e => ?_⟩, by simp [Heap.oput], Ch.oput2 (by rw [hBe]; exact C78) w5, fun y e => ?_⟩
          · have : viewL ls cols tab wrap (r.take k) ++ (acc ++ [(fq, tq)]).map (mkR f.fr) = viewL ls cols tab wrap (r.take k) ++ acc.map (mkR f.fr) ++ [⟨f.fr, fq, tq, false⟩] := by simp [mkR]
            rw [this]; exact O8
          · rw [ev2] at e; simp only [blkOf, Option.some.injEq] at e; exact ⟨by omega, by omega, by omega⟩
          · rw [ev2] at e; simp only [blkOf, Option.some.injEq] at e; omega
        · intro ov2 h6 V6 O6 C6 hn6
          simp (disch := omega) only [wk, wt, wl, ↓reduceIte, Nat.reduceEqDiff, Nat.reduceAdd, Nat.zero_add, not_false_eq_true, not_true_eq_false, u0, u2, u3, u4, u11, u22, u23, u24, IntWalk.i64_in, intOf_int]
          have CF : Ch (fun x => x = bo) h4 h6 := (C05.then (D' := fun _ => False) KC fun b e => e.elim).then C6 fun b e => e.elim .inr fun e => .inl (hov _ e)
          exact ⟨⟨CF, rfl, k + 1, ov2, by simp, by omega, V6, (fun y e => by rcases (hn6 y e).2 with g | g; exact hov _ g; omega), by rw [hvt, hro]; exact O6⟩, by omega⟩
    · simp (disch := omega) only [wk, wt, wl, ↓reduceIte, Nat.reduceEqDiff, Nat.reduceAdd, Nat.zero_add, not_false_eq_true, not_true_eq_false, t11, pt, Vo.load1 (P := prog) (t := 28) underlying28 rfl (i := 0)]
      have hkr : r.take k = r := List.take_of_length_le (by omega)
      rw [hkr] at O
      exact ⟨r, by simpa [rightOr, hr] using hrows, hrl, O.rs, KK, fun b e => by have := hov b e; have := Ch.le K04; omega⟩
  | false =>
    simp only [wk, wt, wl, ↓reduceIte, Nat.reduceEqDiff, Nat.reduceAdd, Nat.zero_add, not_false_eq_true, not_true_eq_false, Bool.not_false]
    have K3 := Keeps.new (Ch.wf K2) 28 [Value.slice none 0 0]
    have V3 := Var.new (e := 28) (Ch.wf K2) (cs := [Value.slice none 0 0])
    have K03 := K2.trans K3
    have T3 := T.keeps K03
    simp (disch := omega) only [wk, wt, wl, ↓reduceIte, Nat.reduceEqDiff, Nat.reduceAdd, Nat.zero_add, not_false_eq_true, not_true_eq_false, T3.len]
    refine (rows_ok (n := ls.length) (l := []) Rd.nil0 (by simp) rfl (by omega) rfl).use ?_
    rintro rv h4 ⟨r, hrows, RV, hrl, K4⟩
    have hin := rowsR_in hrows (Int.le_refl _)
    have K04 := K03.trans K4
    have V4 := Keeps.var (Ch.wf K3) K4 V3
    have hbo : h.size ≤ h2.size := Ch.le K2
    have hbo4 := V4.lt (Ch.wf K4)
    have T4 := T.keeps K04
    simp (disch := omega) only [wk, wt, wl, ↓reduceIte, Nat.reduceEqDiff, Nat.reduceAdd, Nat.zero_add, not_false_eq_true, not_true_eq_false, RV.len underlying23]
    generalize hbb : h2.size = bo at *
    refine W_loop (fun tm h' => Ch (fun x => x = bo) h4 h' ∧ tm 0 = v ∧ tm 2 = .int .i64 cols ∧ tm 3 = .int .i64 tab ∧ tm 4 = .bool wrap ∧ tm 11 = pt bo ∧ tm 22 = rv ∧ tm 23 = .int .i64 r.length ∧ ∃ (k : Nat) (ov : Value), tm 24 = .int .i64 k ∧ k ≤ r.length ∧ Var h' bo [ov] ∧ (∀ y, blkOf ov = some y → h4.size ≤ y) ∧ OS prog h4.size h' 4 cR ov (viewL ls cols tab wrap (r.take k)))
      (fun tm _ => (r.length - intOf (tm 24)).toNat) ⟨Ch.mono (Keeps.refl (Ch.wf K4)) (fun _ e => e.elim), (by first | rfl | (simp only [wk, wt, wl, ↓reduceIte, Nat.reduceEqDiff, Nat.reduceAdd, Nat.zero_add, not_false_eq_true, not_true_eq_false]; done) | (simp only [wk, wt, wl, ↓reduceIte, Nat.reduceEqDiff, Nat.reduceAdd, Nat.zero_add, not_false_eq_true, not_true_eq_false]; rfl)), (by first | rfl | (simp only [wk, wt, wl, ↓reduceIte, Nat.reduceEqDiff, Nat.reduceAdd, Nat.zero_add, not_false_eq_true, not_true_eq_false]; done) | (simp only [wk, wt, wl, ↓reduceIte, Nat.reduceEqDiff, Nat.reduceAdd, Nat.zero_add, not_false_eq_true, not_true_eq_false]; rfl)), (by first | rfl | (simp only [wk, wt, wl, ↓reduceIte, Nat.reduceEqDiff, Nat.reduceAdd, Nat.zero_add, not_false_eq_true, not_true_eq_false]; done) | (simp only [wk, wt, wl, ↓reduceIte, Nat.reduceEqDiff, Nat.reduceAdd, Nat.zero_add, not_false_eq_true, not_true_eq_false]; rfl)), (by first | rfl | (simp only [wk, wt, wl, ↓reduceIte, Nat.reduceEqDiff, Nat.reduceAdd, Nat.zero_add, not_false_eq_true, not_true_eq_false]; done) | (simp only [wk, wt, wl, ↓reduceIte, Nat.reduceEqDiff, Nat.reduceAdd, Nat.zero_add, not_false_eq_true, not_true_eq_false]; rfl)), (by first | rfl | (simp only [wk, wt, wl, ↓reduceIte, Nat.reduceEqDiff, Nat.reduceAdd, Nat.zero_add, not_false_eq_true, not_true_eq_false]; done) | (simp only [wk, wt, wl, ↓reduceIte, Nat.reduceEqDiff, Nat.reduceAdd, Nat.zero_add, not_false_eq_true, not_true_eq_false]; rfl)), (by first | rfl | (simp only [wk, wt, wl, ↓reduceIte, Nat.reduceEqDiff, Nat.reduceAdd, Nat.zero_add, not_false_eq_true, not_true_eq_false]; done) | (simp only [wk, wt, wl, ↓reduceIte, Nat.reduceEqDiff, Nat.reduceAdd, Nat.zero_add, not_false_eq_true, not_true_eq_false]; rfl)), (by first | rfl | (simp only [wk, wt, wl, ↓reduceIte, Nat.reduceEqDiff, Nat.reduceAdd, Nat.zero_add, not_false_eq_true, not_true_eq_false]; done) | (simp only [wk, wt, wl, ↓reduceIte, Nat.reduceEqDiff, Nat.reduceAdd, Nat.zero_add, not_false_eq_true, not_true_eq_false]; rfl)), 0, .slice none 0 0, (by first | rfl | (simp only [wk, wt, wl, ↓reduceIte, Nat.reduceEqDiff, Nat.reduceAdd, Nat.zero_add, not_false_eq_true, not_true_eq_false]; done) | (simp only [wk, wt, wl, ↓reduceIte, Nat.reduceEqDiff, Nat.reduceAdd, Nat.zero_add, not_false_eq_true, not_true_eq_false]; rfl)), by omega, V4, (fun y e => by cases e), OS.nil⟩ ?_
    rintro tm h' ⟨C, t0, t2, t3, t4, t11, t22, t23, k, ov, t24, hk, Vo, hov, O⟩
    have KK := K04.step C fun b e => by subst e; exact hbo
    have T' := T.keeps KK
    have G' := G.keeps KK
    have hle4 := Ch.le C
    simp (disch := omega) only [wk, wt, wl, ↓reduceIte, Nat.reduceEqDiff, Nat.reduceAdd, Nat.zero_add, not_false_eq_true, not_true_eq_false, t0, t2, t3, t4, t11, t22, t23, t24]
    refine condK_dec (fun hd => ?_) (fun hd => ?_)
    · have hk1 : k < r.length := by omega
      obtain ⟨f, hx⟩ : ∃ f, r[k]? = some f := ⟨r[k], by simp [hk1]⟩
      have hbr := Rd.ne_var RV V4 (by simp only [List.length_singleton]; omega)
      have RV' : FR h' rv r := Ch.rd C RV hbr
      obtain ⟨F0, F1, F2, F3⟩ := FR.flds RV' hx
      have IX := Rd.index RV' underlying23 asz56 (q := .i64) (i := (k : Int)) (by omega) (by omega)
      simp only [Int.toNat_natCast] at IX
      obtain ⟨g1, g2, g3, g4⟩ := hin f (List.mem_of_getElem? hx)
      have hvt := viewL_take (ls := ls) (cols := cols) (tab := tab) (wrap := wrap) hx
      have hvl := viewL_len HT (cols := cols) (tab := tab) (wrap := wrap) (r := r.take k)
      have htk : (r.take k).length ≤ 3000 := by rw [List.length_take]; omega
      simp (disch := omega) only [wk, wt, wl, ↓reduceIte, Nat.reduceEqDiff, Nat.reduceAdd, Nat.zero_add, not_false_eq_true, not_true_eq_false, t0, t2, t3, t4, t11, t22, t23, t24, IX, F3]
      have K5 := Keeps.new (Ch.wf C) 56 [Value.int IntKind.i64 0, Value.int IntKind.i64 0, Value.bool false]
      have V5 := Var.new (e := 56) (Ch.wf C) (cs := [Value.int IntKind.i64 0, Value.int IntKind.i64 0, Value.bool false])
      obtain ⟨h5, e5, Vf, C5, z5⟩ := V5.store (P := prog) (t := 56) (v := .agg #[.int .i64 f.fr, .int .i64 f.to, .bool f.cl]) (i := 0) (Ch.wf K5) asz56 (by simp [Value.cells]) (by simp [Value.cells, one])
      rw [e5]; clear e5
      simp only [Value.cells, over_all (xs := [Value.int IntKind.i64 0, Value.int IntKind.i64 0, Value.bool false]) (vs := [.int .i64 f.fr, .int .i64 f.to, .bool f.cl]) rfl] at Vf
      have K15 := K5.step C5 (fun b hb => by omega)
      clear K5 V5 C5
      have hle5 := Ch.le K15
      have hbf := Vf.lt (Ch.wf K15)
      have Vo5 := Keeps.var (Ch.wf C) K15 Vo
      have O5 := O.keeps K15
      have hbo' := Vo.lt (Ch.wf C)
      have C05 : Ch (fun x => x = bo) h4 h5 := C.then (D' := fun _ => False) K15 fun b e => e.elim
      have WF := fun {hh : Heap} (V : Var hh h'.size [.int .i64 f.fr, .int .i64 f.to, .bool f.cl]) => And.intro (V.load1 (P := prog) (t := 3) underlying3 rfl (i := 0)) (And.intro (V.load1 (P := prog) (t := 3) underlying3 rfl (i := 1)) (V.load1 (P := prog) (t := 4) underlying4 rfl (i := 2)))
      simp only [List.getElem?_cons_succ, List.getElem?_cons_zero] at WF
      have WO := fun {hh : Heap} {x : Value} (V : Var hh bo [x]) => V.load1 (P := prog) (t := 28) underlying28 rfl (i := 0)
      simp only [List.getElem?_cons_zero] at WO
      cases hcl : f.cl with
      | true =>
        have hro : rowsOf ls cols tab wrap f = [⟨f.fr, 0, f.to + 1 - f.fr, true⟩] := by simp [rowsOf, hcl]
        rw [hcl] at Vf WF
        have w1 : IntKind.i64.wrap (f.to + 1) = f.to + 1 := IntWalk.i64_in _ (by omega)
        have w2 : IntKind.i64.wrap (f.to + 1 - f.fr) = f.to + 1 - f.fr := IntWalk.i64_in _ (by omega)
        simp (disch := omega) only [wk, wt, wl, ↓reduceIte, Nat.reduceEqDiff, Nat.reduceAdd, Nat.zero_add, not_false_eq_true, not_true_eq_false, t0, t2, t3, t4, t11, t22, t23, t24, pt, WF Vf, WO Vo5, w1, w2, build_r023, bsr]
        obtain ⟨v2, h6, e2, O2, C2, RD2, ev2⟩ := O5.append1 (P := prog) (Ch.wf K15) (by omega) underlying28 elem37 fits37 (by decide) (by decide) ⟨f.fr, 0, f.to + 1 - f.fr, true⟩ rfl (by omega)
        rw [e2]; clear e2
        have Vo6 := Ch.var (Ch.wf K15) C2 Vo5 fun e => by have := hov _ e.1; omega
        obtain ⟨h7, e7, Vo7, C7, z7⟩ := Vo6.store1 (P := prog) (t := 28) (v := v2) (i := 0) (Ch.wf C2) asz28 (by simp) (by rw [ev2]; rfl)
        simp only [List.set_cons_zero] at Vo7
        have C06 : Ch (fun x => x = bo) h4 h6 := C05.then C2 fun b e => .inl (by have := hov _ e.1; omega)
        have C07 : Ch (fun x => x = bo) h4 h7 := C06.then C7 fun b e => .inr e
        have O7 : OS prog h4.size h7 4 cR v2 (viewL ls cols tab wrap (r.take k) ++ [⟨f.fr, 0, f.to + 1 - f.fr, true⟩]) := Ch.own C7 O2 fun y e e' => by rw [ev2] at e; simp only [blkOf, Option.some.injEq] at e; omega
        simp (disch := omega) only [wk, wt, wl, ↓reduceIte, Nat.reduceEqDiff, Nat.reduceAdd, Nat.zero_add, not_false_eq_true, not_true_eq_false, t0, t2, t3, t4, t11, t22, t23, t24, pt, e7, IntWalk.i64_in, intOf_int]
        exact ⟨⟨C07, k + 1, v2, by simp, by omega, Vo7, (fun y e => by rw [ev2] at e; simp only [blkOf, Option.some.injEq] at e; omega), by rw [hvt, hro]; exact O7⟩, by omega⟩
      | false =>
        obtain ⟨i, xs, hfi, hil, hxs, hgd, hrn, hxl⟩ := HT.get (f := f) (by omega) (by omega)
        have T5 := T'.keeps K15
        obtain ⟨xv, A1, A2⟩ := T5.at hxs
        have hro : rowsOf ls cols tab wrap f = (rowsG (colsZ cols) wrap (unitsL xs tab) 0 0).map (mkR f.fr) := by unfold rowsOf; rw [if_neg (by simp [hcl]), hgd]
        have hrl2 := rowsOf_len HT (cols := cols) (tab := tab) (wrap := wrap) (f := f)
        rw [hro, List.length_map] at hrl2
        rw [hcl] at Vf WF
        have WF' := WF Vf
        rw [hfi] at WF'
        have hcz : (if cols < 1 then 1 else cols) = colsZ cols := rfl
        simp (disch := omega) only [wk, wt, wl, ↓reduceIte, Nat.reduceEqDiff, Nat.reduceAdd, Nat.zero_add, not_false_eq_true, not_true_eq_false, t0, t2, t3, t4, t11, t22, t23, t24, pt, WF', T5.index hil, A1, abuiltin_max, hcz]
        refine (viewrows_ok (wrap := wrap) (tab := tab) A2.one).use_pure ?_
        simp (disch := omega) only [wk, wt, wl, ↓reduceIte, Nat.reduceEqDiff, Nat.reduceAdd, Nat.zero_add, not_false_eq_true, not_true_eq_false, W_range]
        refine awpr_gen (fun tm' => tm' 0 = v ∧ tm' 2 = .int .i64 cols ∧ tm' 3 = .int .i64 tab ∧ tm' 4 = .bool wrap ∧ tm' 11 = pt bo ∧ tm' 13 = pt h'.size ∧ tm' 22 = rv ∧ tm' 23 = .int .i64 r.length ∧ tm' 24 = .int .i64 k ∧ tm' 51 = .func (.func 45) #[] #[pt h5.size, pt (h5.size + 2), pt (h5.size + 3), pt (h5.size + 1)])
          ⟨(by first | rfl | (simp only [wk, wt, wl, ↓reduceIte, Nat.reduceEqDiff, Nat.reduceAdd, Nat.zero_add, not_false_eq_true, not_true_eq_false]; done) | (simp only [wk, wt, wl, ↓reduceIte, Nat.reduceEqDiff, Nat.reduceAdd, Nat.zero_add, not_false_eq_true, not_true_eq_false]; rfl) | (simp only [wk, wt, wl, ↓reduceIte, Nat.reduceEqDiff, Nat.reduceAdd, Nat.zero_add, not_false_eq_true, not_true_eq_false, t0]; done) | (simp only [wk, wt, wl, ↓reduceIte, Nat.reduceEqDiff, Nat.reduceAdd, Nat.zero_add, not_false_eq_true, not_true_eq_false, t0]; rfl)), (by first | rfl | (simp only [wk, wt, wl, ↓reduceIte, Nat.reduceEqDiff, Nat.reduceAdd, Nat.zero_add, not_false_eq_true, not_true_eq_false]; done) | (simp only [wk, wt, wl, ↓reduceIte, Nat.reduceEqDiff, Nat.reduceAdd, Nat.zero_add, not_false_eq_true, not_true_eq_false]; rfl) | (simp only [wk, wt, wl, ↓reduceIte, Nat.reduceEqDiff, Nat.reduceAdd, Nat.zero_add, not_false_eq_true, not_true_eq_false, t2]; done) | (simp only [wk, wt, wl, ↓reduceIte, Nat.reduceEqDiff, Nat.reduceAdd, Nat.zero_add, not_false_eq_true, not_true_eq_false, t2]; rfl)), (by first | rfl | (simp only [wk, wt, wl, ↓reduceIte, Nat.reduceEqDiff, Nat.reduceAdd, Nat.zero_add, not_false_eq_true, not_true_eq_false]; done) | (simp only [wk, wt, wl, ↓reduceIte, Nat.reduceEqDiff, Nat.reduceAdd, Nat.zero_add, not_false_eq_true, not_true_eq_false]; rfl) | (simp only [wk, wt, wl, ↓reduceIte, Nat.reduceEqDiff, Nat.reduceAdd, Nat.zero_add, not_false_eq_true, not_true_eq_false, t3]; done) | (simp only [wk, wt, wl, ↓reduceIte, Nat.reduceEqDiff, Nat.reduceAdd, Nat.zero_add, not_false_eq_true, not_true_eq_false, t3]; rfl)), (by first | rfl | (simp only [wk, wt, wl, ↓reduceIte, Nat.reduceEqDiff, Nat.reduceAdd, Nat.zero_add, not_false_eq_true, not_true_eq_false]; done) | (simp only [wk, wt, wl, ↓reduceIte, Nat.reduceEqDiff, Nat.reduceAdd, Nat.zero_add, not_false_eq_true, not_true_eq_false]; rfl) | (simp only [wk, wt, wl, ↓reduceIte, Nat.reduceEqDiff, Nat.reduceAdd, Nat.zero_add, not_false_eq_true, not_true_eq_false, t4]; done) | (simp only [wk, wt, wl, ↓reduceIte, Nat.reduceEqDiff, Nat.reduceAdd, Nat.zero_add, not_false_eq_true, not_true_eq_false, t4]; rfl)), (by first | rfl | (simp only [wk, wt, wl, ↓reduceIte, Nat.reduceEqDiff, Nat.reduceAdd, Nat.zero_add, not_false_eq_true, not_true_eq_false]; done) | (simp only [wk, wt, wl, ↓reduceIte, Nat.reduceEqDiff, Nat.reduceAdd, Nat.zero_add, not_false_eq_true, not_true_eq_false]; rfl) | (simp only [wk, wt, wl, ↓reduceIte, Nat.reduceEqDiff, Nat.reduceAdd, Nat.zero_add, not_false_eq_true, not_true_eq_false, t11]; done) | (simp only [wk, wt, wl, ↓reduceIte, Nat.reduceEqDiff, Nat.reduceAdd, Nat.zero_add, not_false_eq_true, not_true_eq_false, t11]; rfl)), (by first | rfl | (simp only [wk, wt, wl, ↓reduceIte, Nat.reduceEqDiff, Nat.reduceAdd, Nat.zero_add, not_false_eq_true, not_true_eq_false]; done) | (simp only [wk, wt, wl, ↓reduceIte, Nat.reduceEqDiff, Nat.reduceAdd, Nat.zero_add, not_false_eq_true, not_true_eq_false]; rfl)), (by first | rfl | (simp only [wk, wt, wl, ↓reduceIte, Nat.reduceEqDiff, Nat.reduceAdd, Nat.zero_add, not_false_eq_true, not_true_eq_false]; done) | (simp only [wk, wt, wl, ↓reduceIte, Nat.reduceEqDiff, Nat.reduceAdd, Nat.zero_add, not_false_eq_true, not_true_eq_false]; rfl) | (simp only [wk, wt, wl, ↓reduceIte, Nat.reduceEqDiff, Nat.reduceAdd, Nat.zero_add, not_false_eq_true, not_true_eq_false, t22]; done) | (simp only [wk, wt, wl, ↓reduceIte, Nat.reduceEqDiff, Nat.reduceAdd, Nat.zero_add, not_false_eq_true, not_true_eq_false, t22]; rfl)), (by first | rfl | (simp only [wk, wt, wl, ↓reduceIte, Nat.reduceEqDiff, Nat.reduceAdd, Nat.zero_add, not_false_eq_true, not_true_eq_false]; done) | (simp only [wk, wt, wl, ↓reduceIte, Nat.reduceEqDiff, Nat.reduceAdd, Nat.zero_add, not_false_eq_true, not_true_eq_false]; rfl) | (simp only [wk, wt, wl, ↓reduceIte, Nat.reduceEqDiff, Nat.reduceAdd, Nat.zero_add, not_false_eq_true, not_true_eq_false, t23]; done) | (simp only [wk, wt, wl, ↓reduceIte, Nat.reduceEqDiff, Nat.reduceAdd, Nat.zero_add, not_false_eq_true, not_true_eq_false, t23]; rfl)), (by first | rfl | (simp only [wk, wt, wl, ↓reduceIte, Nat.reduceEqDiff, Nat.reduceAdd, Nat.zero_add, not_false_eq_true, not_true_eq_false]; done) | (simp only [wk, wt, wl, ↓reduceIte, Nat.reduceEqDiff, Nat.reduceAdd, Nat.zero_add, not_false_eq_true, not_true_eq_false]; rfl) | (simp only [wk, wt, wl, ↓reduceIte, Nat.reduceEqDiff, Nat.reduceAdd, Nat.zero_add, not_false_eq_true, not_true_eq_false, t24]; done) | (simp only [wk, wt, wl, ↓reduceIte, Nat.reduceEqDiff, Nat.reduceAdd, Nat.zero_add, not_false_eq_true, not_true_eq_false, t24]; rfl)), (by first | rfl | (simp only [wk, wt, wl, ↓reduceIte, Nat.reduceEqDiff, Nat.reduceAdd, Nat.zero_add, not_false_eq_true, not_true_eq_false]; done) | (simp only [wk, wt, wl, ↓reduceIte, Nat.reduceEqDiff, Nat.reduceAdd, Nat.zero_add, not_false_eq_true, not_true_eq_false]; rfl))⟩ ?_
        rintro tm1 ⟨u0, u2, u3, u4, u11, u13, u22, u23, u24, u51⟩
        obtain ⟨KC, Vx, Vc, Vt, Vw, hzc⟩ := clos_vars (a := xv) (cols := colsZ cols) (tab := tab) (wrap := wrap) (Ch.wf K15)
        generalize (((h5.new 43 [xv]).new 3 [.int .i64 (colsZ cols)]).new 3 [.int .i64 tab]).new 4 [.bool wrap] = hc at *
        have Voc := Keeps.var (Ch.wf K15) KC Vo5
        have Vfc := Keeps.var (Ch.wf K15) KC Vf
        have hlev : ∀ y, blkOf ov = some y → y < h'.size := fun y e => (O.rs.blk_lt e).1
        refine range_iter (i := f.fr) (bf := h'.size) (B := h4.size) (pre := viewL ls cols tab wrap (r.take k)) (Ch.wf KC) (by kernel_rfl) rfl (show ev tm1 (.tmp 51) = _ from u51) (A2.keeps KC) ((G'.keeps K15).keeps KC) hrn hxl Vx Vc Vt Vw ⟨by omega, by omega⟩
          (fun y e => by have g1 := hov y e; have g2 := hlev y e; exact ⟨by omega, by omega, by omega, by omega, by omega⟩) Voc Vfc (O5.keeps KC) ?_ ?_
        · intro acc fq tq ov2 h6 w1 w2 w3 J w5
          simp (disch := omega) only [wk, wt, wl, ↓reduceIte, Nat.reduceEqDiff, Nat.reduceAdd, Nat.zero_add, not_false_eq_true, not_true_eq_false, bind2]
          refine ⟨w5, ?_⟩
          generalize hBe : Heap.oput h6 _ _ = hB
          have VB : Var hB bo [ov2] := by rw [← hBe]; exact J.var
          have FB : Var hB h'.size [Value.int IntKind.i64 f.fr, Value.int IntKind.i64 f.to, Value.bool false] := by rw [← hBe]; exact J.fol
          have OB : OS prog h4.size hB 4 cR ov2 (viewL ls cols tab wrap (r.take k) ++ acc.map (mkR f.fr)) := by rw [← hBe]; exact J.own
          have WB : Wf hB := by rw [← hBe]; exact w1
          have zB : hB.size = h6.size := by rw [← hBe]; rfl
          have nb := J.nb
          simp (disch := omega) only [wk, wt, wl, ↓reduceIte, Nat.reduceEqDiff, Nat.reduceAdd, Nat.zero_add, not_false_eq_true, not_true_eq_false, u11, u13, pt, WO VB, WF FB, build_r012, bsr]
          obtain ⟨v2, h7, e2, O2, C2, RD2, ev2⟩ := OB.append1 (P := prog) WB (by omega) underlying28 elem37 fits37 (by decide) (by decide) ⟨f.fr, fq, tq, false⟩ rfl (by simp only [List.length_append, List.length_map]; omega)
          rw [e2]; clear e2
          have V7 := Ch.var WB C2 VB fun e => (nb _ e.1).2.1 rfl
          have F7 := Ch.var WB C2 FB fun e => (nb _ e.1).2.2 rfl
          obtain ⟨h8, e8, V8, C8, z8⟩ := V7.store1 (P := prog) (t := 28) (v := v2) (i := 0) (Ch.wf C2) asz28 (by simp) (by rw [ev2]; rfl)
          simp only [List.set_cons_zero] at V8
          have F8 := Ch.var (Ch.wf C2) C8 F7 (by omega)
          have O8 := Ch.own C8 O2 (fun y e e' => by rw [ev2] at e; simp only [blkOf, Option.some.injEq] at e; omega)
          have C78 : Ch (fun x => x = bo ∨ blkOf ov2 = some x) hB h8 := (C2.mono (D' := fun x => x = bo ∨ blkOf ov2 = some x) fun b e => .inr e.1).then C8 fun b e => .inr (.inl e)
          have hob8 := C78.obj (b := hc.size + 1) (by omega) fun e => e.elim (fun e => by omega) fun e => (nb _ e).1 rfl
          rw [← hBe] at hob8
          simp (disch := omega) only [wk, wt, wl, ↓reduceIte, Nat.reduceEqDiff, Nat.reduceAdd, Nat.zero_add, not_false_eq_true, not_true_eq_false, u11, pt, e8]
          simp only [roundK]
          refine ⟨by rw [hob8]; simp [Heap.oput], rfl, v2, ⟨V8, F8, ?_, fun y e => ?_⟩, by simp [Heap.oput], Ch.oput2 (by rw [hBe]; exact C78) w5, fun y e => ?_⟩
          · have : viewL ls cols tab wrap (r.take k) ++ (acc ++ [(fq, tq)]).map (mkR f.fr) = viewL ls cols tab wrap (r.take k) ++ acc.map (mkR f.fr) ++ [⟨f.fr, fq, tq, false⟩] := by simp [mkR]
            rw [this]; exact O8
          · rw [ev2] at e; simp only [blkOf, Option.some.injEq] at e; exact ⟨by omega, by omega, by omega⟩
          · rw [ev2] at e; simp only [blkOf, Option.some.injEq] at e; omega
        · intro ov2 h6 V6 O6 C6 hn6
          simp (disch := omega) only [wk, wt, wl, ↓reduceIte, Nat.reduceEqDiff, Nat.reduceAdd, Nat.zero_add, not_false_eq_true, not_true_eq_false, u0, u2, u3, u4, u11, u22, u23, u24, IntWalk.i64_in, intOf_int]
          have CF : Ch (fun x => x = bo) h4 h6 := (C05.then (D' := fun _ => False) KC fun b e => e.elim).then C6 fun b e => e.elim .inr fun e => .inl (hov _ e)
          exact ⟨⟨CF, rfl, k + 1, ov2, by simp, by omega, V6, (fun y e => by rcases (hn6 y e).2 with g | g; exact hov _ g; omega), by rw [hvt, hro]; exact O6⟩, by omega⟩
    · simp (disch := omega) only [wk, wt, wl, ↓reduceIte, Nat.reduceEqDiff, Nat.reduceAdd, Nat.zero_add, not_false_eq_true, not_true_eq_false, t11, pt, Vo.load1 (P := prog) (t := 28) underlying28 rfl (i := 0)]
      have hkr : r.take k = r := List.take_of_length_le (by omega)
      rw [hkr] at O
      exact ⟨r, by simpa [rightOr, hr] using hrows, hrl, O.rs, KK, fun b e => by have := hov b e; have := Ch.le K04; omega⟩
end Go.Proofs.YtmjdebeikcogkaaDoor.Am
end
