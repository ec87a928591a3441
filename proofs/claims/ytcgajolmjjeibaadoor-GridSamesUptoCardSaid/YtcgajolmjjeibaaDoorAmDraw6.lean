/- The frame Am, a text beside the others: a region that draws its order, told by what holds behind any set of its operations. Nothing of a program stands here. -/
import Derived.Test.YtcgajolmjjeibaaDoorAmDraw5
set_option linter.unusedVariables false
set_option linter.unusedSimpArgs false
set_option linter.defProp false
namespace Go.Proofs.YtcgajolmjjeibaaDoor.Am
open Go Go.RowKit
/-- Each operation stands behind those that it is ordered with. -/
def topoOk (ops : Array Oper) : Bool := (List.range ops.size).all fun i => match ops[i]? with
  | none => false
  | some o => o.after.all fun e => !Region.binds .any e || decide (e.on < i)
section
variable {P : Program} {w0 w : World} {ρ : Ren} {h h' : Heap} {n : Nat} {tm : Tm} {a : Act} {Q : Exit → Tm → Heap → Prop} {ops : Array Oper}
theorem getD_set {l : Array Bool} {i : Nat} (hi : i < l.size) : (fun j => (l.setIfInBounds i true).getD j false) = fun j => j == i || l.getD j false := by
  funext j
  simp only [Array.getD_eq_getD_getElem?, Array.getElem?_setIfInBounds]
  by_cases e : i = j
  · subst e; simp [hi]
  · rw [if_neg e]
    have : (j == i) = false := by simp; omega
    rw [this, Bool.false_or]
theorem AStep.monoX {o : Oper} {K K' : Tm → Heap → Prop} {X X' : Value → Heap → Prop} (hk : ∀ tm h, K tm h → K' tm h) (hx : ∀ v h, X v h → X' v h) (H : AStep P ops true o tm h K X) : AStep P ops true o tm h K' X' :=
  gate_mono (fun hK => stepV_mono hK (fun u h' q => ⟨q.1, hk _ _ q.2⟩) (fun _ _ q => hx _ _ q)) (fun hK => hk _ _ hK) H
/-- No end but the normal one. -/
def noX : Exit → Tm → Heap → Prop := fun _ _ _ => False
theorem AAnyE_of_inv (I : (Nat → Bool) → Tm → Heap → Prop) (ht : topoOk ops = true)
    (step : ∀ i o, ops[i]? = some o → ∀ L tm h, I L tm h → L i = false → (∀ e ∈ o.after, Region.binds .any e = true → L e.on = true) → AStep P ops true o tm h (I (fun j => j == i || L j)) (fun v h' => Q (raised v) tm h'))
    (fin : ∀ L tm h, I L tm h → (∀ i, i < ops.size → L i = true) → Q .normal tm h) :
    ∀ (fuel : Nat) (l : Array Bool) (tm : Tm) (h : Heap), l.size = ops.size → ((List.range ops.size).filter fun i => !l.getD i true).length ≤ fuel → I (fun j => l.getD j false) tm h → AAnyE P ops Q fuel l tm h := by
  have two : ∀ {l : Array Bool}, l.size = ops.size → ∀ i, i < ops.size → l.getD i true = l.getD i false := fun {l} hs i hi => by
    simp only [Array.getD_eq_getD_getElem?, Array.getElem?_eq_getElem (show i < l.size by omega), Option.getD_some]
  have all : ∀ {l : Array Bool}, l.size = ops.size → Region.ready .any ops l = [] → ∀ i, i < ops.size → l.getD i false = true := fun {l} hs hr i => by
    induction i using Nat.strongRecOn with
    | ind i ih =>
      intro hi
      cases hl : l.getD i false with
      | true => rfl
      | false =>
        have hm : i ∈ Region.ready .any ops l := by
          rw [mem_ready]
          refine ⟨by rw [two hs i hi]; exact hl, ops[i], Array.getElem?_eq_getElem hi, fun e he hb => ?_⟩
          have := List.all_eq_true.1 ht i (List.mem_range.2 hi)
          simp only [Array.getElem?_eq_getElem hi] at this
          rw [Array.all_eq_true_iff_forall_mem] at this
          have := this e he
          rw [hb] at this
          have hlt : e.on < i := by simpa using this
          exact ih e.on hlt (by omega)
        rw [hr] at hm; cases hm
  intro fuel
  induction fuel with
  | zero =>
    intro l tm h hs hc hI
    have hf := List.eq_nil_of_length_eq_zero (Nat.le_zero.1 hc)
    have hr : Region.ready .any ops l = [] := List.eq_nil_iff_forall_not_mem.2 fun i hi => by
      obtain ⟨h1, o, ho, _⟩ := mem_ready.1 hi
      have hlt : i < ops.size := (Array.getElem?_eq_some_iff.1 ho).1
      have : i ∈ (List.range ops.size).filter fun i => !l.getD i true := List.mem_filter.2 ⟨List.mem_range.2 hlt, by rw [h1]; rfl⟩
      rw [hf] at this; cases this
    exact ⟨hr, fin _ tm h hI (all hs hr)⟩
  | succ fuel ih =>
    intro l tm h hs hc hI
    refine ⟨fun hr => fin _ tm h hI (all hs hr), fun i hi o ho => ?_⟩
    obtain ⟨h1, o', ho', hp⟩ := mem_ready.1 hi
    rw [ho] at ho'; cases ho'
    have hlt : i < ops.size := (Array.getElem?_eq_some_iff.1 ho).1
    have h1' : l.getD i false = false := by rw [← two hs i hlt]; exact h1
    have hE := step i o ho _ tm h hI h1' hp
    have hsub : ((List.range ops.size).filter fun j => !(l.setIfInBounds i true).getD j true) = ((List.range ops.size).filter fun j => !l.getD j true).filter fun j => decide (j ≠ i) := by
      rw [List.filter_filter]
      refine List.filter_congr fun j hj => ?_
      have hj' := List.mem_range.1 hj
      simp only [Array.getD_eq_getD_getElem?, Array.getElem?_setIfInBounds]
      by_cases e : i = j
      · subst e; simp [hs, hlt]
      · have : decide (j ≠ i) = true := by simp; omega
        rw [if_neg e, this, Bool.true_and]
    have hmem : i ∈ (List.range ops.size).filter fun j => !l.getD j true := List.mem_filter.2 ⟨List.mem_range.2 hlt, by rw [h1]; rfl⟩
    have : (((List.range ops.size).filter fun j => !l.getD j true).filter fun j => decide (j ≠ i)).length < ((List.range ops.size).filter fun j => !l.getD j true).length :=
      List.length_filter_lt_length_iff_exists.2 ⟨i, hmem, by simp⟩
    have hcnt : ((List.range ops.size).filter fun j => !(l.setIfInBounds i true).getD j true).length ≤ fuel := by rw [hsub]; omega
    refine hE.mono (fun tm' h' hI' => ih _ tm' h' (by rw [Array.size_setIfInBounds]; exact hs) hcnt (by rw [getD_set (by omega)]; exact hI'))
theorem adraw_inv (I : (Nat → Bool) → Tm → Heap → Prop) (hm : P.follows .mixedOrders = true) (hall : opsOk P n ops = true) (ht : topoOk ops = true) (h0 : I (fun _ => false) tm h)
    (step : ∀ i o, ops[i]? = some o → ∀ L tm h, I L tm h → L i = false → (∀ e ∈ o.after, Region.binds .any e = true → L e.on = true) → etK P ops (I (fun j => j == i || L j)) noX tm h (some o))
    (fin : ∀ L tm h, I L tm h → (∀ i, i < ops.size → L i = true) → Q .normal tm h) : ADraw P n ops Q tm h := fun id ro w0 ρ w a Hr T =>
  wpIn_region_any hm (wpAny_of_AAnyE hall ops.size _ tm h (AAnyE_of_inv I ht (fun i o ho L tm h a b c => (etK_step ho (by rw [ho]; exact step i o ho L tm h a b c)).monoX (fun _ _ q => q) fun _ _ e => False.elim e) fin ops.size _ tm h (by simp) (by simpa using List.length_filter_le _ (List.range ops.size)) (by
    have : (fun j => (Array.replicate ops.size false).getD j false) = fun _ => false := by
      funext j
      simp only [Array.getD_eq_getD_getElem?, Array.getElem?_replicate]
      split <;> rfl
    rw [this]; exact h0)) w0 ρ _ a ρ a.defers (RenLe.refl _) (DT.refl _ _) (Hr.drawn _) T)
/-- Calm operations, each of which is wanted by a later one; then one of any kind. -/
def dstOf (ops : Array Oper) (i : Nat) : Option Tmp := (ops[i]?).bind (·.dst)
def lastOk (P : Program) (ops : Array Oper) (m : Nat) : Bool := ops.size == m + 1 && (List.range (m + 1)).all fun i => match ops[i]? with
  | none => false
  | some o => (i == m || (calmOp P o.op && o.dst.isSome && ((List.range (m + 1)).any fun j => decide (i < j) && (match ops[j]? with | none => false | some oj => (preds oj).contains i)) && (List.range m).all fun j => i == j || dstOf ops j != o.dst)) &&
    (looks ops o).all fun t => (List.range m).all fun j => dstOf ops j != some t || (preds o).contains j
theorem mem_preds {o : Oper} {p : Nat} : p ∈ preds o ↔ ∃ e ∈ o.after, Region.binds .any e = true ∧ e.on = p := by
  simp only [preds, List.mem_map, List.mem_filter, Array.mem_toList_iff, and_assoc]
theorem calm_seq {o : Oper} {rest : List Oper} (hc : calmOp P o.op = true) (H : aops P ops Q (o :: rest) tm h) : ∃ v, aval P ops tm h o = some v ∧ aops P ops Q rest (aput tm o.dst v) h := by
  obtain ⟨h1, he⟩ := calm_none (P := P) hc
  have go : stepK P o tm h (aops P ops Q rest) (fun v h' => Q (raised v) tm h') → ∃ v, aop P tm h o.op = some v ∧ aops P ops Q rest (aput tm o.dst v) h := fun hs => by
    simp only [stepK, stepV, h1, he, calm_np hc, calm_na hc] at hs
    split at hs
    · rename_i v hv; exact ⟨v, hv, hs⟩
    · exact hs.elim
  unfold aops gate at H
  unfold aval
  split at H
  · rename_i hg; simp only [hg]; exact go H
  · rename_i j want hg
    simp only [hg]
    split at H
    · rename_i b hb
      simp only [hb]
      by_cases e : b = want
      · rw [if_pos e]; exact go (H.1 e)
      · rw [if_neg e]; exact ⟨_, rfl, H.2 (by cases b <;> cases want <;> simp_all)⟩
    · rename_i hb
      simp only [hb]
      exact ⟨_, rfl, H⟩
theorem aput_self {d : Tmp} {v : Value} : aput tm (some d) v d = v := by simp [aput]
theorem aput_ne {d t : Tmp} {v : Value} (h : t ≠ d) : aput tm (some d) v t = tm t := by simp [aput, h]
theorem adraw_last (m : Nat) (hm : P.follows .mixedOrders = true) (hall : opsOk P n ops = true) (ht : topoOk ops = true) (hl : lastOk P ops m = true) (H : aops P ops Q ops.toList tm h) : ADraw P n ops Q tm h := by
  simp only [lastOk, Bool.and_eq_true, beq_iff_eq] at hl
  obtain ⟨hsz, hl⟩ := hl
  have at1 : ∀ i, i < m + 1 → ∃ o, ops[i]? = some o := fun i hi => ⟨_, Array.getElem?_eq_getElem (by omega)⟩
  have ok : ∀ i o, i < m + 1 → ops[i]? = some o → (i ≠ m → calmOp P o.op = true ∧ (∃ d, o.dst = some d) ∧ (∃ j oj, i < j ∧ j < m + 1 ∧ ops[j]? = some oj ∧ i ∈ preds oj) ∧ ∀ j, j < m → i ≠ j → dstOf ops j ≠ o.dst) ∧ ∀ t, t ∈ looks ops o → ∀ j, j < m → dstOf ops j = some t → j ∈ preds o := fun i o hi ho => by
    have := List.all_eq_true.1 hl i (List.mem_range.2 hi)
    simp only [ho, Bool.and_eq_true, Bool.or_eq_true, beq_iff_eq] at this
    obtain ⟨h1, h2⟩ := this
    refine ⟨fun hne => ?_, fun t htl j hj hd => ?_⟩
    · rcases h1 with h1 | ⟨⟨⟨q1, q2⟩, q3⟩, q4⟩
      · exact absurd h1 hne
      · refine ⟨q1, Option.isSome_iff_exists.1 q2, ?_, fun j hj hij e => ?_⟩
        · obtain ⟨j, hj, hx⟩ := List.any_eq_true.1 q3
          simp only [Bool.and_eq_true, decide_eq_true_eq] at hx
          obtain ⟨oj, hoj⟩ := at1 j (List.mem_range.1 hj)
          rw [hoj] at hx
          exact ⟨j, oj, hx.1, List.mem_range.1 hj, hoj, by simpa using hx.2⟩
        · have := List.all_eq_true.1 q4 j (List.mem_range.2 hj)
          simp only [Bool.or_eq_true, beq_iff_eq, bne_iff_ne] at this
          rcases this with q | q
          · exact hij q
          · exact q e
    · have := List.all_eq_true.1 (List.all_eq_true.1 h2 t htl) j (List.mem_range.2 hj)
      simp only [Bool.or_eq_true, bne_iff_ne] at this
      rcases this with q | q
      · exact absurd hd q
      · simpa using q
  have lt1 : ∀ i o, ops[i]? = some o → i < m + 1 := fun i o ho => by have := (Array.getElem?_eq_some_iff.1 ho).1; omega
  have topo : ∀ i o, ops[i]? = some o → ∀ p, p ∈ preds o → p < i := fun i o ho p hp => by
    have := List.all_eq_true.1 ht i (List.mem_range.2 (Array.getElem?_eq_some_iff.1 ho).1)
    simp only [ho] at this
    rw [Array.all_eq_true_iff_forall_mem] at this
    obtain ⟨e, he, hb, rfl⟩ := mem_preds.1 hp
    have := this e he
    rw [hb] at this
    simpa using this
  have dst1 : ∀ i o, ops[i]? = some o → dstOf ops i = o.dst := fun i o ho => by simp [dstOf, ho]
  -- one after the other
  have seq : ∀ k, k ≤ m → ∃ T : Nat → Tm, T 0 = tm ∧ (∀ i, i < k → ∃ o v, ops[i]? = some o ∧ aval P ops (T i) h o = some v ∧ T (i + 1) = aput (T i) o.dst v) ∧ aops P ops Q (ops.toList.drop k) (T k) h := by
    intro k
    induction k with
    | zero => exact fun _ => ⟨fun _ => tm, rfl, fun i hi => by omega, by simpa using H⟩
    | succ k ih =>
      intro hk
      obtain ⟨T, T0, hT, hd⟩ := ih (by omega)
      obtain ⟨o, ho⟩ := at1 k (by omega)
      obtain ⟨hkl, hko⟩ := Array.getElem?_eq_some_iff.1 ho
      have hdr : ops.toList.drop k = o :: ops.toList.drop (k + 1) := by
        rw [List.drop_eq_getElem_cons (by simpa using hkl), Array.getElem_toList, hko]
      rw [hdr] at hd
      obtain ⟨v, hv, hd'⟩ := calm_seq ((ok k o (by omega) ho).1 (by omega)).1 hd
      refine ⟨fun i => if i ≤ k then T i else aput (T k) o.dst v, by simp [T0], fun i hi => ?_, by dsimp only; rw [if_neg (by omega)]; exact hd'⟩
      by_cases e : i = k
      · subst e
        exact ⟨o, v, ho, by dsimp only; rw [if_pos (Nat.le_refl _)]; exact hv, by dsimp only; rw [if_neg (by omega), if_pos (Nat.le_refl _)]⟩
      · obtain ⟨o', v', g1, g2, g3⟩ := hT i (by omega)
        exact ⟨o', v', g1, by dsimp only; rw [if_pos (by omega)]; exact g2, by dsimp only; rw [if_pos (by omega), if_pos (by omega)]; exact g3⟩
  obtain ⟨T, T0, hT, hd⟩ := seq m (Nat.le_refl _)
  obtain ⟨ol, hol⟩ := at1 m (by omega)
  have hdl : ops.toList.drop m = [ol] := by
    obtain ⟨hkl, hko⟩ := Array.getElem?_eq_some_iff.1 hol
    rw [List.drop_eq_getElem_cons (by simpa using hkl), Array.getElem_toList, hko]
    rw [List.drop_eq_nil_of_le (by simp [hsz])]
  rw [hdl] at hd
  have A : ∀ i, i ≤ m → ∀ t, (∀ j, j < i → dstOf ops j ≠ some t) → T i t = tm t := by
    intro i
    induction i with
    | zero => exact fun _ t _ => by rw [T0]
    | succ i ih =>
      intro hi t hn
      obtain ⟨o, v, g1, g2, g3⟩ := hT i (by omega)
      obtain ⟨d, hd⟩ := ((ok i o (by omega) g1).1 (by omega)).2.1
      have := hn i (by omega)
      rw [dst1 i o g1, hd] at this
      rw [g3, hd, aput_ne (fun e => this (by rw [e]))]
      exact ih (by omega) t fun j hj => hn j (by omega)
  have B : ∀ i t, dstOf ops i = some t → i < m → ∀ j, i < j → j ≤ m → T j t = T (i + 1) t := by
    intro i t hit him j
    induction j with
    | zero => intro hj; omega
    | succ j ih =>
      intro hj hjm
      by_cases e : i = j
      · subst e; rfl
      · obtain ⟨o, v, g1, g2, g3⟩ := hT j (by omega)
        obtain ⟨hx, _⟩ := (ok j o (by omega) g1)
        obtain ⟨d, hd⟩ := (hx (by omega)).2.1
        have := (hx (by omega)).2.2.2 i him (fun e' => e e'.symm)
        rw [hit, hd] at this
        rw [g3, hd, aput_ne (fun e' => this (by rw [e']))]
        exact ih (by omega) (by omega)
  have closedAll : ∀ L : Nat → Bool, (∀ i o, ops[i]? = some o → L i = true → ∀ p, p ∈ preds o → L p = true) → L m = true → ∀ k i, i + k = m → L i = true := by
    intro L hc hm' k
    induction k using Nat.strongRecOn with
    | ind k ih =>
      intro i hi
      by_cases e : i = m
      · rw [e]; exact hm'
      · obtain ⟨o, ho⟩ := at1 i (by omega)
        obtain ⟨j, oj, hij, hj, hoj, hp⟩ := ((ok i o (by omega) ho).1 e).2.2.1
        exact hc j oj hoj (ih (m - j) (by omega) j (by omega)) i hp
  have I0 := AAnyE_of_inv (P := P) (Q := Q) (ops := ops) (fun L tm' hh => (∀ i o, ops[i]? = some o → L i = true → ∀ p, p ∈ preds o → L p = true) ∧
      (L m = false → hh = h ∧ ∀ t, (∀ i, i < m → dstOf ops i = some t → L i = true → tm' t = T m t) ∧ ((∀ i, i < m → dstOf ops i = some t → L i = false) → tm' t = tm t)) ∧ (L m = true → Q .normal tm' hh)) ht
    (fun i o ho L tm' hh hI hli hp => by
      obtain ⟨hc, hn, hy⟩ := hI
      have hp' : ∀ p, p ∈ preds o → L p = true := fun p hpp => by
        obtain ⟨e, he, hb, rfl⟩ := mem_preds.1 hpp
        exact hp e he hb
      have hlm : L m = false := by
        cases e : L m with
        | false => rfl
        | true =>
          have := closedAll L hc e (m - i) i (by have := lt1 i o ho; omega)
          rw [hli] at this; cases this
      obtain ⟨rfl, hq⟩ := hn hlm
      have hc' : ∀ i' o', ops[i']? = some o' → (i' == i || L i') = true → ∀ p, p ∈ preds o' → (p == i || L p) = true := fun i' o' ho' hl' p hpp => by
        rw [Bool.or_eq_true] at hl' ⊢
        rcases hl' with e | e
        · rw [beq_iff_eq] at e; subst e
          rw [ho] at ho'; cases ho'
          exact .inr (hp' p hpp)
        · exact .inr (hc i' o' ho' e p hpp)
      by_cases him : i = m
      · subst him
        have allL : ∀ k, k < i → L k = true := fun k hk => by
          have := closedAll (fun j => j == i || L j) hc' (by simp) (i - k) k (by omega)
          simpa [show k ≠ i by omega] using this
        have heq : tm' = T i := by
          funext t
          by_cases ex : ∃ j, j < i ∧ dstOf ops j = some t
          · obtain ⟨j, hj, hjt⟩ := ex
            exact (hq t).1 j hj hjt (allL j hj)
          · have hno : ∀ j, j < i → dstOf ops j ≠ some t := fun j hj e => ex ⟨j, hj, e⟩
            rw [(hq t).2 (fun j hj e => absurd e (hno j hj)), A i (Nat.le_refl _) t hno]
        rw [hol] at ho; cases ho
        rw [heq]
        have hE : etK P ops (fun tm' hh => Q .normal tm' hh) Q (T i) hh (ops[i]?) := by
          rw [hol]
          unfold etK
          unfold aops at hd ⊢
          exact gate_mono (fun hs => stepV_mono hs (fun u h' hk => hk) (fun _ _ hx => hx)) (fun hk => hk) hd
        exact (etK_step hol hE).mono fun tm2 h2 q => ⟨hc', fun e => by simp at e, fun _ => q⟩
      · have him' : i < m := by have := lt1 i o ho; omega
        obtain ⟨⟨hcalm, ⟨d, hdst⟩, _, huniq⟩, hlook⟩ : (calmOp P o.op = true ∧ (∃ d, o.dst = some d) ∧ (∃ j oj, i < j ∧ j < m + 1 ∧ ops[j]? = some oj ∧ i ∈ preds oj) ∧ ∀ j, j < m → i ≠ j → dstOf ops j ≠ o.dst) ∧ _ := ⟨(ok i o (by omega) ho).1 him, (ok i o (by omega) ho).2⟩
        obtain ⟨o', v, g1, g2, g3⟩ := hT i him'
        rw [ho] at g1; cases g1
        have hv : aval P ops tm' hh o = some v := by
          rw [← g2]
          refine aval_congr fun t htl => ?_
          by_cases ex : ∃ j, j < m ∧ dstOf ops j = some t
          · obtain ⟨j, hj, hjt⟩ := ex
            have hjp := hlook t htl j hj hjt
            have hji := topo i o ho j hjp
            rw [(hq t).1 j hj hjt (hp' j hjp), B j t hjt hj m (by omega) (Nat.le_refl _), B j t hjt hj i hji (by omega)]
          · have hno : ∀ j, j < m → dstOf ops j ≠ some t := fun j hj e => ex ⟨j, hj, e⟩
            rw [(hq t).2 (fun j hj e => absurd e (hno j hj)), A i (by omega) t (fun j hj => hno j (by omega))]
        refine AStep_of_aval hv (calm_none (P := P) hcalm).1 ⟨hc', fun _ => ⟨rfl, fun t => ?_⟩, fun e => ?_⟩
        · rw [hdst]
          by_cases e : t = d
          · subst e
            refine ⟨fun j hj hjt hjl => ?_, fun hall' => ?_⟩
            · by_cases eij : i = j
              · subst eij
                rw [aput_self, B i t hjt hj m hj (Nat.le_refl _), g3, hdst, aput_self]
              · exact absurd (by rw [hdst]; exact hjt) (huniq j hj eij)
            · have := hall' i him' (by rw [dst1 i o ho, hdst])
              simp at this
          · rw [aput_ne e]
            refine ⟨fun j hj hjt hjl => (hq t).1 j hj hjt ?_, fun hall' => (hq t).2 fun j hj hjt => ?_⟩
            · have : j ≠ i := fun e' => by
                subst e'
                rw [dst1 j o ho, hdst] at hjt
                cases hjt; exact e rfl
              simpa [this] using hjl
            · have := hall' j hj hjt
              simp at this
              exact this.2
        · have : m ≠ i := fun e' => him e'.symm
          have e' : L m = true := by simpa [this] using e
          rw [hlm] at e'; cases e')
    (fun L tm' hh hI hL => hI.2.2 (hL m (by omega)))
  exact fun id ro w0 ρ w a Hr T' =>
    wpIn_region_any hm (wpAny_of_AAnyE hall ops.size _ tm h (I0 ops.size _ tm h (by simp) (by simpa using List.length_filter_le _ (List.range ops.size)) (by
      have e : ∀ j, (Array.replicate ops.size false).getD j false = false := fun j => by
        simp only [Array.getD_eq_getD_getElem?, Array.getElem?_replicate]
        split <;> rfl
      have no : ∀ j, (Array.replicate ops.size false).getD j false = true → False := fun j hj => by rw [e] at hj; cases hj
      exact ⟨fun i o ho hl' => (no i hl').elim, fun _ => ⟨rfl, fun t => ⟨fun i hi hit hl' => (no i hl').elim, fun _ => rfl⟩⟩, fun hl' => (no m hl').elim⟩)) w0 ρ _ a ρ a.defers (RenLe.refl _) (DT.refl _ _) (Hr.drawn _) T')
end
end Go.Proofs.YtcgajolmjjeibaaDoor.Am
