/- The texts of this seat, one behind another (part 9 of 25): the frame (an abstract machine), the contracts of functions, the laws. -/
import Derived.Test.YthmpaddhmgnkbaaDoorZ8
import Derived.OrdersIn
section
/- The frame Am, a text beside the others: a region that draws its order, walked in one order. Nothing of a program stands here. -/
set_option linter.unusedVariables false
set_option linter.unusedSimpArgs false
namespace Go.Proofs.YthmpaddhmgnkbaaDoor.Am
open Go Go.RowKit

/-- What could be read of h is read of h' as well. -/
def Reads (h h' : Heap) : Prop := ∀ b k, h.get b = some k → ∃ k', h'.get b = some k' ∧ k'.cells = k.cells ∧ k'.elem = k.elem ∧ (k.live = true → k'.live = true)
theorem Reads.refl (h : Heap) : Reads h h := fun b k hk => ⟨k, hk, rfl, rfl, id⟩
theorem Reads.trans {h h' h'' : Heap} (H : Reads h h') (K : Reads h' h'') : Reads h h'' := fun b k hk => by
  obtain ⟨k1, h1, h2, h3, h4⟩ := H b k hk
  obtain ⟨k2, g1, g2, g3, g4⟩ := K b k1 h1
  exact ⟨k2, g1, g2.trans h2, g3.trans h3, fun l => g4 (h4 l)⟩
/-- Operations that aop tells of. -/
def calmOp (P : Program) (o : Op) : Bool :=
  match o with
  | .convert _ t _ => (match P.underlying t with | some (.slice _) => false | _ => true)
  | .move _ | .assign _ | .pick .. | .load .. | .nilCheck _ | .binOp .. | .unOp .. | .makeInterface .. | .makeFunc .. | .slice .. | .fieldAddr .. | .field .. | .indexAddr .. | .index .. | .extract .. | .build .. => true
  | .call { callee := .builtin .len, args := _, argTypes := ts } => (match ts.toList with | [t] => (match P.underlying t with | some (.map _ _) => false | _ => true) | _ => true)
  | .call { callee := .builtin .cap, args := _, argTypes := _ } => true
  | .call { callee := .builtin .min, args := _, argTypes := _ } => true
  | .call { callee := .builtin .max, args := _, argTypes := _ } => true
  | _ => false
/-- Memory is nothing to it. -/
def blindOp : Op → Bool
  | .load .. => false
  | .slice .. => false
  | .convert .. => false
  | _ => true
/-- What is done ahead of an operation (three steps far). -/
def reach (ops : Array Oper) : Nat → Nat → List Nat
  | 0, _ => []
  | f + 1, j => match ops[j]? with
    | none => []
    | some o => preds o ++ (preds o).flatMap (reach ops f)
/-- Ordered with every other operation to which memory is something. -/
def solo (ops : Array Oper) (j : Nat) : Bool :=
  match ops[j]? with
  | none => false
  | some oj => (List.range ops.size).all fun i => match ops[i]? with
    | none => false
    | some oi => i == j || (reach ops 3 j).contains i || (reach ops 3 i).contains j || blindOp oi.op
def orderOk (P : Program) (ops : Array Oper) : List (Nat × Bool) → Array Bool → Bool
  | [], listed => (Region.ready .any ops listed).isEmpty
  | (i, r) :: rest, listed => (match ops[i]? with
    | none => false
    | some o => (Region.ready .any ops listed).contains i && (if calmOp P o.op = true then !r && Region.free .any ops listed i else Region.ready .any ops listed == [i] && (r || solo ops i))) && orderOk P ops rest (listed.setIfInBounds i true)
/-- What follows an operation of a region that draws. -/
def dK (K : Tm → Heap → Prop) (r : Bool) (h : Heap) (Q : Exit → Tm → Heap → Prop) : Exit → Tm → Heap → Prop
  | .normal, tm', h' => (r = true → Reads h h') ∧ K tm' h'
  | e, tm', h' => Q e tm' h'
def DR (P : Program) (ops : Array Oper) (Q : Exit → Tm → Heap → Prop) : List (Nat × Bool) → Tm → Heap → Prop
  | [], tm, h => Q .normal tm h
  | (i, r) :: rest, tm, h => match ops[i]? with
    | none => False
    | some o => aops P ops (dK (DR P ops Q rest) r h Q) [o] tm h
def PF (Q : Exit → Tm → Heap → Prop) : Prop := ∀ v tm tm' h, Q (raised v) tm h → Q (raised v) tm' h
theorem PF_thenK {K : Tm → Heap → Prop} {Q : Exit → Tm → Heap → Prop} (h : PF Q) : PF (thenK K Q) := h
theorem PF_blockK {i : Nat} {Q : Exit → Tm → Heap → Prop} (h : PF Q) : PF (blockK i Q) := h
theorem PF_retK {P rs Qr Qp} : PF (retK P rs Qr Qp) := fun v tm tm' h H => H
def AStep (P : Program) (ops : Array Oper) (s : Bool) (o : Oper) (tm : Tm) (h : Heap) (K : Tm → Heap → Prop) (X : Value → Heap → Prop) : Prop :=
  gate ops o tm (stepK P o tm h (fun tm' h' => (s = false → Reads h h') ∧ K tm' h') X) (K (aput tm o.dst undef) h)
def AAny (P : Program) (ops : Array Oper) (Q : Exit → Tm → Heap → Prop) : Nat → Array Bool → Tm → Heap → Prop
  | 0, listed, tm, h => Region.ready .any ops listed = [] ∧ Q .normal tm h
  | fuel + 1, listed, tm, h => (Region.ready .any ops listed = [] → Q .normal tm h) ∧
    ∀ i, i ∈ Region.ready .any ops listed → ∀ o, ops[i]? = some o → AStep P ops (solo ops i) o tm h (AAny P ops Q fuel (listed.setIfInBounds i true)) (fun v h' => Q (raised v) tm h')

section
variable {P : Program} {w0 w : World} {ρ : Ren} {h h' : Heap} {n : Nat} {tm : Tm} {a : Act} {Q : Exit → Tm → Heap → Prop} {ops : Array Oper}
theorem aload_reads (H : Reads h h') {t : TypeId} {x : Addr} {v : Value} (hv : aload P h t x = some v) : aload P h' t x = some v := by
  unfold aload at hv ⊢
  split at hv
  · cases hv
  · rename_i k hk
    obtain ⟨k', h1, h2, h3, h4⟩ := H _ _ hk
    simp only [h1, h2]
    split at hv
    · rename_i hl; rw [if_pos (h4 hl)]; exact hv
    · cases hv
theorem aslice_reads (H : Reads h h') {t : TypeId} {x : Value} {lo hi mx : Option Value} {v : Value} (hv : aslice P h t x lo hi mx = some v) : aslice P h' t x lo hi mx = some v := by
  unfold aslice at hv ⊢
  split at hv
  · exact hv
  · exact hv
  · split at hv
    · rename_i k s hk hs
      obtain ⟨k', h1, h2, h3, h4⟩ := H _ _ hk
      simp only [h1, hs, h3]
      exact hv
    · cases hv
  · cases hv
theorem aconv_reads (H : Reads h h') {s d : TypeId} {x v : Value} (hv : aconv P h s d x = some v) : aconv P h' s d x = some v := by
  unfold aconv at hv ⊢
  split at hv
  · exact hv
  · exact hv
  · exact hv
  · exact hv
  · split at hv
    · cases hv
    · rename_i k hk
      obtain ⟨k', h1, h2, h3, h4⟩ := H _ _ hk
      simp only [h1, h2]
      split at hv
      · rename_i hc; rw [if_pos ⟨hc.1, h4 hc.2.1, hc.2.2⟩]; exact hv
      · cases hv
  · cases hv
theorem aop_reads (H : Reads h h') {o : Op} {v : Value} (hv : aop P tm h o = some v) : aop P tm h' o = some v := by
  cases o with
  | load t x =>
    simp only [aop] at hv ⊢
    split at hv
    · exact aload_reads H hv
    · cases hv
  | slice t x lo hi mx => exact aslice_reads H hv
  | convert s d x => exact aconv_reads H hv
  | call c =>
    obtain ⟨callee, args, ts⟩ := c
    cases callee <;> exact hv
  | _ => exact hv
theorem aval_reads (H : Reads h h') {o : Oper} {v : Value} (hv : aval P ops tm h o = some v) : aval P ops tm h' o = some v := by
  unfold aval at hv ⊢
  split at hv
  · exact aop_reads H hv
  · split at hv
    · split at hv
      · rename_i hb; rw [if_pos hb]; exact aop_reads H hv
      · rename_i hb; rw [if_neg hb]; exact hv
    · exact hv
theorem aop_blind {o : Op} (hb : blindOp o = true) : aop P tm h o = aop P tm h' o := by
  cases o with
  | load t x => cases hb
  | slice t x lo hi mx => cases hb
  | convert s d x => cases hb
  | call c =>
    obtain ⟨callee, args, ts⟩ := c
    cases callee <;> rfl
  | _ => rfl
theorem aval_blind {o : Oper} (hb : blindOp o.op = true) : aval P ops tm h o = aval P ops tm h' o := by
  unfold aval
  rw [aop_blind (h := h) (h' := h') hb]
theorem stepV_mono {o : Oper} {R R' X X' : Value → Heap → Prop} (hs : stepV P o tm h R X) (h1 : ∀ v h', R v h' → R' v h') (h2 : ∀ v h', X v h' → X' v h') : stepV P o tm h R' X' := by
  unfold stepV at hs ⊢
  split at hs
  · split at hs
    · exact ⟨hs.1, hs.2.mono h1 h2⟩
    · exact ⟨hs.1, hs.2.1, hs.2.2.mono h1⟩
    · exact hs
  · split at hs
    · exact h1 _ _ hs
    · split at hs
      · exact h1 _ _ hs
      · split at hs
        · rename_i x _
          revert hs
          generalize ev tm x = v
          cases v <;> first | exact h2 _ _ | exact id
        · split at hs
          · exact h1 _ _ hs
          · split at hs
            · exact ⟨hs.1, hs.2.mono h1 h2⟩
            · exact hs
theorem stepV_congr {tm tm' : Tm} {o : Oper} (hl : ∀ t, t ∈ looks ops o → tm t = tm' t) {R X : Value → Heap → Prop} : stepV P o tm h R X = stepV P o tm' h R X := by
  have he : ∀ x, x ∈ o.op.operands → ev tm x = ev tm' x := fun x hx => evs_congr hl hx
  unfold stepV
  cases hc : callOf o.op with
  | none =>
    cases hp : panicOf o.op with
    | none =>
      have ha : assertV P tm o.op = assertV P tm' o.op := by
        unfold assertV
        split
        · rename_i x xt a hop
          rw [he x (by rw [hop]; simp [Op.operands])]
        · rfl
      have hi : invV P tm h o.op = invV P tm' h o.op := by
        unfold invV
        split
        · rename_i x name args ts hop
          rw [he x (by rw [hop]; simp [Op.operands, Call.operands]), amap_congr (xs := args) fun x hx => he x (by rw [hop]; simp [Op.operands, Call.operands, hx])]
        · rfl
      simp only [aop_congr hl, aeff_congr hl, ha, hi]
    | some x => simp only [aop_congr hl, aeff_congr hl, he x (by rw [panicOf_eq hp]; simp [Op.operands])]
  | some c =>
    obtain ⟨f, args⟩ := c
    obtain ⟨ts, hop⟩ := callOf_eq hc
    simp only
    rw [he f (by rw [hop]; simp [Op.operands, Call.operands]), amap_congr (xs := args) fun x hx => he x (by rw [hop]; simp [Op.operands, Call.operands, hx])]
theorem aput_comm {x y : Option Tmp} (v u : Value) (hxy : ∀ d, x = some d → y ≠ some d) : aput (aput tm x v) y u = aput (aput tm y u) x v := by
  cases x with
  | none => rfl
  | some d =>
    cases y with
    | none => rfl
    | some e =>
      have hne : d ≠ e := fun he => hxy d rfl (he ▸ rfl)
      funext t
      simp only [aput]
      by_cases h1 : t = d
      · subst h1; rw [if_neg hne, if_pos rfl, if_pos rfl]
      · by_cases h2 : t = e
        · subst h2; rw [if_pos rfl, if_neg h1, if_pos rfl]
        · rw [if_neg h2, if_neg h1, if_neg h1, if_neg h2]
theorem aput_looks {o : Oper} {d : Option Tmp} {v : Value} (hd : ∀ x, d = some x → x ∉ looks ops o) : ∀ t, t ∈ looks ops o → aput tm d v t = tm t := fun t ht => by
  cases d with
  | none => rfl
  | some x => simp only [aput]; rw [if_neg (by intro e; subst e; exact hd _ rfl ht)]
theorem gate_congr {tm tm' : Tm} {o : Oper} (hl : ∀ t, t ∈ looks ops o → tm t = tm' t) {A B : Prop} : gate ops o tm A B = gate ops o tm' A B := by
  unfold gate
  split
  · rfl
  · rename_i j want hg
    rw [gval_congr hl hg]
theorem gate_mono {o : Oper} {A A' B B' : Prop} (h1 : A → A') (h2 : B → B') (H : gate ops o tm A B) : gate ops o tm A' B' := by
  unfold gate at H ⊢
  split at H
  · exact h1 H
  · split at H
    · exact ⟨fun e => h1 (H.1 e), fun e => h2 (H.2 e)⟩
    · exact h2 H
theorem not_solo {i j : Nat} {oi oj : Oper} (hi : ops[i]? = some oi) (hj : ops[j]? = some oj) (hne : i ≠ j) (h1 : i ∉ reach ops 3 j) (h2 : j ∉ reach ops 3 i) (h3 : blindOp oi.op = false) : solo ops j = false := by
  cases hs : solo ops j with
  | false => rfl
  | true =>
    simp only [solo, hj, List.all_eq_true, List.mem_range] at hs
    have := hs i (Array.getElem?_eq_some_iff.1 hi).1
    simp [hi, hne, h1, h2, h3] at this
theorem notin_preds {i j : Nat} {oj : Oper} {listed : Array Bool} (hj : ops[j]? = some oj) (hr : j ∈ Region.ready .any ops listed) (hi : listed.getD i true = false) : i ∉ preds oj := fun hm => by
  obtain ⟨_, o, ho, hall⟩ := mem_ready.1 hr
  rw [hj] at ho; cases ho
  simp only [preds, List.mem_map, List.mem_filter] at hm
  obtain ⟨e, ⟨he, hb⟩, rfl⟩ := hm
  have h1 := hall e (by simpa using he) hb
  rcases Nat.lt_or_ge e.on listed.size with h' | h'
  · simp [h'] at hi h1; rw [hi] at h1; cases h1
  · simp [Array.getElem?_eq_none h'] at h1
/-- What is listed is listed with all that is done ahead of it. -/
def Closed (ops : Array Oper) (listed : Array Bool) : Prop := listed.size = ops.size ∧ ∀ j oj, ops[j]? = some oj → listed.getD j true = true → ∀ i, i ∈ preds oj → listed.getD i true = true
theorem Closed.init : Closed ops (Array.replicate ops.size false) := ⟨by simp, fun j oj hj hl => by
  have := (Array.getElem?_eq_some_iff.1 hj).1
  simp [this] at hl⟩
theorem ready_listed {j : Nat} {oj : Oper} {listed : Array Bool} (hj : ops[j]? = some oj) (hr : j ∈ Region.ready .any ops listed) : ∀ i, i ∈ preds oj → listed.getD i true = true := fun i hi => by
  cases hg : listed.getD i true with
  | true => rfl
  | false => exact absurd hi (notin_preds hj hr hg)
theorem Closed.set {j : Nat} {oj : Oper} {listed : Array Bool} (C : Closed ops listed) (hj : ops[j]? = some oj) (hr : j ∈ Region.ready .any ops listed) : Closed ops (listed.setIfInBounds j true) := by
  have mono : ∀ i, listed.getD i true = true → (listed.setIfInBounds j true).getD i true = true := fun i hi => by
    by_cases e : j = i
    · subst e
      simp only [Array.getD_eq_getD_getElem?, Array.getElem?_setIfInBounds, if_true]
      split <;> rfl
    · rw [getD_set_ne true e]; exact hi
  refine ⟨by rw [Array.size_setIfInBounds]; exact C.1, fun k ok hk hl i hi => mono i ?_⟩
  by_cases e : j = k
  · subst e; rw [hj] at hk; cases hk; exact ready_listed hj hr i hi
  · rw [getD_set_ne true e] at hl; exact C.2 k ok hk hl i hi
theorem reach_listed {listed : Array Bool} (C : Closed ops listed) : ∀ (f j : Nat), (∀ oj, ops[j]? = some oj → ∀ i, i ∈ preds oj → listed.getD i true = true) → ∀ i, i ∈ reach ops f j → listed.getD i true = true := by
  intro f
  induction f with
  | zero => intro j _ i hi; simp [reach] at hi
  | succ f ih =>
    intro j hp i hi
    unfold reach at hi
    cases ho : ops[j]? with
    | none => rw [ho] at hi; simp at hi
    | some o =>
      rw [ho] at hi
      simp only [List.mem_append, List.mem_flatMap] at hi
      rcases hi with hi | ⟨p, hpm, hi⟩
      · exact hp o ho i hi
      · exact ih p (fun op hop k hk => C.2 p op hop (hp o ho p hpm) k hk) i hi
theorem notin_reach {i j : Nat} {oj : Oper} {listed : Array Bool} (C : Closed ops listed) (hj : ops[j]? = some oj) (hr : j ∈ Region.ready .any ops listed) (hi : listed.getD i true = false) : i ∉ reach ops 3 j := fun hm => by
  have := reach_listed C 3 j (fun o ho => by rw [hj] at ho; cases ho; exact ready_listed hj hr) i hm
  rw [hi] at this; cases this
theorem AStep_of_aval {s : Bool} {o : Oper} {v : Value} (hv : aval P ops tm h o = some v) (hc : callOf o.op = none) {K : Tm → Heap → Prop} {X : Value → Heap → Prop} (hk : K (aput tm o.dst v) h) : AStep P ops s o tm h K X := by
  have hs : ∀ {v}, aop P tm h o.op = some v → K (aput tm o.dst v) h → stepK P o tm h (fun tm' h' => (s = false → Reads h h') ∧ K tm' h') X := fun hv hk => by
    simp only [stepK, stepV, hc, hv]
    exact ⟨fun _ => Reads.refl h, hk⟩
  unfold AStep gate
  unfold aval at hv
  split at hv
  · rename_i hg; simp only [hg]; exact hs hv hk
  · rename_i j want hg
    simp only [hg]
    split at hv
    · rename_i b hb
      simp only [hb]
      split at hv
      · rename_i e; exact ⟨fun _ => hs hv hk, fun e' => by subst e; cases b <;> cases e'⟩
      · rename_i e; cases hv; exact ⟨fun e' => absurd e' e, fun _ => hk⟩
    · rename_i hb; simp only [hb]; cases hv; exact hk
theorem AAny_first {i : Nat} {oi : Oper} {v : Value} (hi : ops[i]? = some oi) (hc : callOf oi.op = none) (hPF : PF Q) : ∀ (fuel : Nat) (listed : Array Bool) (tm : Tm) (h : Heap), Closed ops listed →
    (∀ j oj, ops[j]? = some oj → j ≠ i → listed.getD j true = false → (∀ e ∈ oj.after, Region.binds .any e = true → e.on ≠ i) → oi.apart ops oj = true) →
    i ∈ Region.ready .any ops listed → aval P ops tm h oi = some v → AAny P ops Q fuel (listed.setIfInBounds i true) (aput tm oi.dst v) h → AAny P ops Q (fuel + 1) listed tm h := by
  intro fuel
  induction fuel with
  | zero =>
    intro listed tm h _ _ hr hy H
    refine ⟨fun h => (by rw [h] at hr; cases hr), fun j hj oj hoj => ?_⟩
    by_cases hji : j = i
    · subst hji; rw [hi] at hoj; cases hoj; exact AStep_of_aval hy hc H
    · have := ready_mono hj hji
      rw [H.1] at this
      cases this
  | succ fuel ih =>
    intro listed tm h hC hfree hr hy H
    refine ⟨fun h => (by rw [h] at hr; cases hr), fun j hj oj hoj => ?_⟩
    by_cases hji : j = i
    · subst hji; rw [hi] at hoj; cases hoj; exact AStep_of_aval hy hc H
    · have hS := H.2 j (ready_mono hj hji) oj hoj
      have hjun := (mem_ready.1 hj).1
      have hiun := (mem_ready.1 hr).1
      have hnot : ∀ e ∈ oj.after, Region.binds .any e = true → e.on ≠ i := fun e he hb heq => notin_preds hoj hj hiun (by
        simp only [preds, List.mem_map, List.mem_filter]; exact ⟨e, ⟨by simpa using he, hb⟩, heq⟩)
      obtain ⟨h1, h2, h3⟩ := Oper.apart_spec (hfree j oj hoj hji hjun hnot)
      have hsolo := fun hb => not_solo hi hoj (Ne.symm hji) (notin_reach hC hoj hj hiun) (notin_reach hC hi hr hjun) hb
      have hfree' : ∀ k ok, ops[k]? = some ok → k ≠ i → (listed.setIfInBounds j true).getD k true = false →
          (∀ e ∈ ok.after, Region.binds .any e = true → e.on ≠ i) → oi.apart ops ok = true := fun k ok hk hki hun hno => by
        refine hfree k ok hk hki ?_ hno
        by_cases hjk : j = k
        · subst hjk; exact hjun
        · rw [getD_set_ne true hjk] at hun; exact hun
      have next : ∀ u h', (blindOp oi.op = false → Reads h h') → AAny P ops Q fuel ((listed.setIfInBounds i true).setIfInBounds j true) (aput (aput tm oi.dst v) oj.dst u) h' →
          AAny P ops Q (fuel + 1) (listed.setIfInBounds j true) (aput tm oj.dst u) h' := fun u h' hR hA => by
        refine ih (listed.setIfInBounds j true) _ h' (hC.set hoj hj) hfree' (ready_mono hr (Ne.symm hji)) ?_ ?_
        · rw [aval_congr (aput_looks fun d hd => h3 d hd)]
          cases hb : blindOp oi.op with
          | true => rw [← aval_blind (h := h) (h' := h') hb]; exact hy
          | false => exact aval_reads (hR hb) hy
        · rw [Array.setIfInBounds_comm _ _ hji, aput_comm _ _ (fun d hd he => h2 d he hd)]
          exact hA
      unfold AStep at hS ⊢
      rw [gate_congr (aput_looks fun d hd => h1 d hd)] at hS
      refine gate_mono (fun hK => ?_) (fun hK => next _ _ (fun _ => Reads.refl _) hK) hS
      unfold stepK at hK ⊢
      rw [stepV_congr (aput_looks fun d hd => h1 d hd)] at hK
      exact stepV_mono hK (fun u h' hk => ⟨hk.1, next u h' (fun hb => hk.1 (hsolo hb)) hk.2⟩) (fun u h' hx => hPF _ _ _ _ hx)
theorem calm_np {P : Program} {o : Op} (h : calmOp P o = true) : panicOf o = none := by
  cases o <;> first | rfl | cases h
theorem calm_na {P : Program} {o : Op} {tm : Tm} (h : calmOp P o = true) : assertV P tm o = none := by
  cases o <;> first | rfl | cases h
theorem calm_ni {P : Program} {o : Op} {tm : Tm} {h : Heap} (hc : calmOp P o = true) : invV P tm h o = none := by
  cases o <;> first
    | rfl
    | (cases hc; done)
    | (rename_i c; obtain ⟨callee, args, ts⟩ := c; cases callee <;> first | rfl | (cases hc; done))
theorem calm_none {o : Op} (h0 : calmOp P o = true) : callOf o = none ∧ ∀ tm h, aeff P tm h o = none := by
  unfold calmOp at h0
  split at h0
  · rename_i s t x
    refine ⟨rfl, fun tm h => ?_⟩
    simp only [aeff, aconvE]
    split at h0
    · cases h0
    · rename_i hn
      split
      · rename_i h2 h3; first | exact absurd h2 (hn _) | exact absurd h3 (hn _) | (rename_i h4; exact absurd h4 (hn _))
      · rename_i h2 h3; first | exact absurd h2 (hn _) | exact absurd h3 (hn _) | (rename_i h4; exact absurd h4 (hn _))
      · rfl
  all_goals first | exact ⟨rfl, fun _ _ => rfl⟩ | (cases h0; done) | skip
  rename_i args ts
  refine ⟨rfl, fun tm h => ?_⟩
  simp only [aeff]
  split
  · rename_i x t ha hts
    rw [hts] at h0
    simp only at h0
    unfold alenMap
    split
    · rename_i ht hm; rw [ht] at h0; cases h0
    · rfl
  · rfl
theorem AAny_of_DR (hPF : PF Q) : ∀ (π : List (Nat × Bool)) (listed : Array Bool) (tm : Tm) (h : Heap), Closed ops listed → orderOk P ops π listed = true → DR P ops Q π tm h → AAny P ops Q π.length listed tm h := by
  intro π
  induction π with
  | nil => exact fun listed tm h _ h1 h2 => ⟨by simpa [orderOk] using h1, h2⟩
  | cons x rest ih =>
    obtain ⟨i, r⟩ := x
    intro listed tm h hC h1 h2
    unfold orderOk at h1
    unfold DR at h2
    cases ho : ops[i]? with
    | none => rw [ho] at h2; exact h2.elim
    | some o =>
      simp only [ho, Bool.and_eq_true] at h1 h2
      obtain ⟨⟨h1, h3⟩, h4⟩ := h1
      have hr : i ∈ Region.ready .any ops listed := by simpa using h1
      split at h3
      · rename_i hcalm
        simp only [Bool.and_eq_true, Bool.not_eq_true'] at h3
        obtain ⟨rfl, h3⟩ := h3
        obtain ⟨hc, he⟩ := calm_none (P := P) hcalm
        have key : ∃ v, aval P ops tm h o = some v ∧ DR P ops Q rest (aput tm o.dst v) h := by
          have go : stepK P o tm h (aops P ops (dK (DR P ops Q rest) false h Q) []) (fun v h' => dK (DR P ops Q rest) false h Q (raised v) tm h') → ∃ v, aop P tm h o.op = some v ∧ DR P ops Q rest (aput tm o.dst v) h := fun hs => by
            simp only [stepK, stepV, hc, he, calm_np hcalm, calm_na hcalm, calm_ni hcalm] at hs
            split at hs
            · rename_i v hv; exact ⟨v, hv, hs.2⟩
            · exact hs.elim
          unfold aops gate at h2
          unfold aval
          split at h2
          · rename_i hg; simp only [hg]; exact go h2
          · rename_i j want hg
            simp only [hg]
            split at h2
            · rename_i b hb
              simp only [hb]
              by_cases e : b = want
              · rw [if_pos e]; exact go (h2.1 e)
              · rw [if_neg e]; exact ⟨_, rfl, (h2.2 (by cases b <;> cases want <;> simp_all)).2⟩
            · rename_i hb; simp only [hb]; exact ⟨_, rfl, h2.2⟩
        obtain ⟨v, hv, hk⟩ := key
        exact AAny_first ho hc hPF rest.length listed tm h hC (Region.free_spec ho h3) hr hv (ih _ _ _ (hC.set ho hr) h4 hk)
      · simp only [Bool.and_eq_true, beq_iff_eq, Bool.or_eq_true] at h3
        refine ⟨fun h => (by rw [h] at hr; cases hr), fun j hj oj hoj => ?_⟩
        rw [h3.1] at hj
        simp only [List.mem_singleton] at hj
        subst hj
        rw [ho] at hoj; cases hoj
        unfold aops at h2
        refine gate_mono (fun hK => ?_) (fun hK => ih _ _ _ (hC.set ho hr) h4 hK.2) h2
        exact stepV_mono hK (fun u h' hk => ⟨fun hs => hk.1 (h3.2.resolve_right (by rw [hs]; decide)), ih _ _ _ (hC.set ho hr) h4 hk.2⟩) (fun _ _ hx => hx)
theorem wpAny_of_AAny {ro : Option Nat} (hall : opsOk P n ops = true) : ∀ (fuel : Nat) (listed : Array Bool) (tm : Tm) (h : Heap), AAny P ops Q fuel listed tm h →
    ∀ w0 ρ w a ρ0 ds, RenLe ρ0 ρ → DT ρ0 ρ ds a.defers → HRel P w0 ρ h w → TR ρ n tm a → wpAnyIn (FO ro) 0 P .any ops (Post P w0 ρ0 n Q ds) fuel listed a w := by
  intro fuel
  induction fuel with
  | zero => exact fun listed tm h hA w0 ρ w a ρ0 ds hρ D H T => ⟨hA.1, _, tm, h, ρ, hA.2, .inl ⟨rfl, rfl⟩, hρ, H, T, D⟩
  | succ fuel ih =>
    intro listed tm h hA w0 ρ w a ρ0 ds hρ D H T
    refine ⟨fun hr => ⟨_, tm, h, ρ, hA.1 hr, .inl ⟨rfl, rfl⟩, hρ, H, T, D⟩, fun i hi => ?_⟩
    obtain ⟨_, o, ho, _⟩ := mem_ready.1 hi
    have hS := hA.2 i hi o ho
    have hm : o ∈ ops.toList := by simpa using Array.mem_of_getElem? ho
    have hoo := (List.all_eq_true.1 hall) o hm
    simp only [Bool.and_eq_true] at hoo
    have hok : ∀ x, x ∈ o.op.operands → oprOk P n x = true := fun x hx => (List.all_eq_true.1 hoo.2) x (by simpa using hx)
    have step : stepK P o tm h (fun tm' h' => (solo ops i = false → Reads h h') ∧ AAny P ops Q fuel (listed.setIfInBounds i true) tm' h') (fun v h' => Q (raised v) tm h') →
        o.wpIn (FO ro) 0 P a w (wpAnyIn (FO ro) 0 P .any ops (Post P w0 ρ0 n Q ds) fuel (listed.setIfInBounds i true)) (Post P w0 ρ0 n Q ds) := fun hs =>
      stepK_sound hs H T hok (fun tm' h' ρ' w' a' r H' T' hd hk => ih _ tm' h' hk.2 w0 ρ' w' a' ρ0 ds (hρ.trans r) (by rw [hd]; exact D.mono r) H' T')
        (fun v v' h' ρ' w' r H' hv hk => ⟨raised v, tm, h', ρ', hk, EX.raised hv, hρ.trans r, H', T.mono r, D.mono r⟩)
    have skip : AAny P ops Q fuel (listed.setIfInBounds i true) (aput tm o.dst undef) h → wpAnyIn (FO ro) 0 P .any ops (Post P w0 ρ0 n Q ds) fuel (listed.setIfInBounds i true) (a.put o.dst undef) w :=
      fun hk => ih _ _ h hk w0 ρ w _ ρ0 ds hρ (by rw [put_defers]; exact D) H (T.put VR.undef)
    unfold wpOpIn
    simp only [ho]
    unfold AStep gate at hS
    split at hS
    · rename_i hg
      rw [if_pos (by simp [Region.wanted, hg])]
      exact step hS
    · rename_i j want hg
      have hy := yielded_rel hall T j
      split at hS
      · rename_i b hb
        by_cases e : b = want
        · rw [if_pos (by simp [Region.wanted, hg, hy, hb, e])]
          exact step (hS.1 e)
        · rw [if_neg (by simp [Region.wanted, hg, hy, hb, e])]
          exact ⟨FO_about, skip (hS.2 (by cases b <;> cases want <;> simp_all))⟩
      · rename_i hb
        rw [if_neg (by simp [Region.wanted, hg, hy, hb])]
        exact ⟨FO_about, skip hS⟩
/-- A region that draws its order: one order is enough. -/
theorem adraw_order (π : List (Nat × Bool)) (hm : P.follows .mixedOrders = true) (hall : opsOk P n ops = true) (hsz : π.length = ops.size) (hor : orderOk P ops π (Array.replicate ops.size false) = true) (hPF : PF Q)
    (H : DR P ops Q π tm h) : ADraw P n ops Q tm h := fun id ro w0 ρ w a Hr T =>
  wpIn_region_any hm (wpAny_of_AAny hall ops.size _ tm h (by have hC := Closed.init (ops := ops); rw [← hsz] at *; exact AAny_of_DR hPF π _ tm h hC hor H) w0 ρ _ a ρ a.defers (RenLe.refl _) (DT.refl _ _) (Hr.drawn _) T)
theorem DR_nil : DR P ops Q [] tm h = Q .normal tm h := propext Iff.rfl
theorem dK_f {K : Tm → Heap → Prop} : dK K false h Q .normal tm h' = K tm h' := by simp [dK]
theorem dK_t {K : Tm → Heap → Prop} : dK K true h Q .normal tm h' = (Reads h h' ∧ K tm h') := by simp [dK]
theorem dK_raised {K : Tm → Heap → Prop} {r : Bool} {v : Value} : dK K r h Q (raised v) tm h' = Q (raised v) tm h' := propext Iff.rfl
end
end Go.Proofs.YthmpaddhmgnkbaaDoor.Am
end
