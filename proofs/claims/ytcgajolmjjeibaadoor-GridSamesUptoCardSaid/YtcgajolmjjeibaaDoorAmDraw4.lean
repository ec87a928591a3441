/- The frame Am, a text beside the others: a region that draws its order, walked along a tree of orders. Nothing of a program stands here. -/
import Derived.Test.YtcgajolmjjeibaaDoorAmDraw2
import Derived.Test.YtcgajolmjjeibaaDoorAmTac2
set_option linter.unusedVariables false
set_option linter.unusedSimpArgs false
namespace Go.Proofs.YtcgajolmjjeibaaDoor.Am
open Go Go.RowKit
inductive OTr where
  | nil
  | cons (i : Nat) (r : Bool) (t : OTr)
  | two (i j : Nat) (a b : OTr)
def OTr.len : OTr → Nat
  | .nil => 0
  | .cons _ _ t => t.len + 1
  | .two _ _ a _ => a.len + 1
def treeOk (P : Program) (ops : Array Oper) : OTr → Array Bool → Bool
  | .nil, listed => (Region.ready .any ops listed).isEmpty
  | .cons i r t, listed => (match ops[i]? with
    | none => false
    | some o => (Region.ready .any ops listed).contains i && (if calmOp P o.op = true then !r && Region.free .any ops listed i else Region.ready .any ops listed == [i] && (r || solo ops i))) && treeOk P ops t (listed.setIfInBounds i true)
  | .two i j a b, listed => Region.ready .any ops listed == [i, j] && a.len == b.len && treeOk P ops a (listed.setIfInBounds i true) && treeOk P ops b (listed.setIfInBounds j true)
def TRo (P : Program) (ops : Array Oper) (Q : Exit → Tm → Heap → Prop) : OTr → Tm → Heap → Prop
  | .nil, tm, h => Q .normal tm h
  | .cons i r t, tm, h => match ops[i]? with
    | none => False
    | some o => aops P ops (dK (TRo P ops Q t) r h Q) [o] tm h
  | .two i j a b, tm, h => (match ops[i]? with
    | none => False
    | some o => aops P ops (dK (TRo P ops Q a) true h Q) [o] tm h) ∧ (match ops[j]? with
    | none => False
    | some o => aops P ops (dK (TRo P ops Q b) true h Q) [o] tm h)
section
variable {P : Program} {w0 w : World} {ρ : Ren} {h h' : Heap} {n : Nat} {tm : Tm} {a : Act} {Q : Exit → Tm → Heap → Prop} {ops : Array Oper}
theorem AAny_of_TRo (hPF : PF Q) : ∀ (π : OTr) (listed : Array Bool) (tm : Tm) (h : Heap), Closed ops listed → treeOk P ops π listed = true → TRo P ops Q π tm h → AAny P ops Q π.len listed tm h := by
  intro π
  induction π with
  | nil => exact fun listed tm h _ h1 h2 => ⟨by simpa [treeOk] using h1, h2⟩
  | cons i r rest ih =>
    intro listed tm h hC h1 h2
    unfold treeOk at h1
    unfold TRo at h2
    cases ho : ops[i]? with
    | none => rw [ho] at h2; exact h2.elim
    | some o =>
      simp only [ho, Bool.and_eq_true] at h1 h2
      obtain ⟨⟨h1, h3⟩, h4⟩ := h1
      have hr : i ∈ Region.ready .any ops listed := by simpa using h1
      split at h3
      · rename_i hcalm
        simp only [Bool.and_eq_true, Bool.not_eq_true'] at h3
        obtain ⟨rfl, h3⟩ := h3
        obtain ⟨hc, he⟩ := calm_none (P := P) hcalm
        have key : ∃ v, aval P ops tm h o = some v ∧ TRo P ops Q rest (aput tm o.dst v) h := by
          have go : stepK P o tm h (aops P ops (dK (TRo P ops Q rest) false h Q) []) (fun v h' => dK (TRo P ops Q rest) false h Q (raised v) tm h') → ∃ v, aop P tm h o.op = some v ∧ TRo P ops Q rest (aput tm o.dst v) h := fun hs => by
            simp only [stepK, stepV, hc, he, calm_np hcalm, calm_na hcalm] at hs
            split at hs
            · rename_i v hv; exact ⟨v, hv, hs.2⟩
            · exact hs.elim
          unfold aops gate at h2
          unfold aval
          split at h2
          · rename_i hg; simp only [hg]; exact go h2
          · rename_i j want hg
            simp only [hg]
            split at h2
            · rename_i b hb
              simp only [hb]
              by_cases e : b = want
              · rw [if_pos e]; exact go (h2.1 e)
              · rw [if_neg e]; exact ⟨_, rfl, (h2.2 (by cases b <;> cases want <;> simp_all)).2⟩
            · rename_i hb; simp only [hb]; exact ⟨_, rfl, h2.2⟩
        obtain ⟨v, hv, hk⟩ := key
        exact AAny_first ho hc hPF rest.len listed tm h hC (Region.free_spec ho h3) hr hv (ih _ _ _ (hC.set ho hr) h4 hk)
      · simp only [Bool.and_eq_true, beq_iff_eq, Bool.or_eq_true] at h3
        refine ⟨fun h => (by rw [h] at hr; cases hr), fun j hj oj hoj => ?_⟩
        rw [h3.1] at hj
        simp only [List.mem_singleton] at hj
        subst hj
        rw [ho] at hoj; cases hoj
        unfold aops at h2
        refine gate_mono (fun hK => ?_) (fun hK => ih _ _ _ (hC.set ho hr) h4 hK.2) h2
        exact stepV_mono hK (fun u h' hk => ⟨fun hs => hk.1 (h3.2.resolve_right (by rw [hs]; decide)), ih _ _ _ (hC.set ho hr) h4 hk.2⟩) (fun _ _ hx => hx)
  | two i j ta tb iha ihb =>
    intro listed tm h hC h1 h2
    simp only [treeOk, Bool.and_eq_true, beq_iff_eq] at h1
    obtain ⟨⟨⟨hr, hl⟩, ha⟩, hb⟩ := h1
    unfold TRo at h2
    have go : ∀ (x : Nat) (ox : Oper) (t : OTr), (∀ (listed : Array Bool) (tm : Tm) (h : Heap), Closed ops listed → treeOk P ops t listed = true → TRo P ops Q t tm h → AAny P ops Q t.len listed tm h) → ops[x]? = some ox → x ∈ Region.ready .any ops listed → treeOk P ops t (listed.setIfInBounds x true) = true → aops P ops (dK (TRo P ops Q t) true h Q) [ox] tm h →
        AStep P ops (solo ops x) ox tm h (AAny P ops Q t.len (listed.setIfInBounds x true)) (fun v h' => Q (raised v) tm h') := fun x ox t ih hx hm ho hs => by
      unfold aops at hs
      have C' := hC.set hx hm
      refine gate_mono (fun hK => ?_) (fun hK => ih _ _ _ C' ho hK.2) hs
      exact stepV_mono hK (fun u h' hk => ⟨fun _ => hk.1 rfl, ih _ _ _ C' ho hk.2⟩) (fun _ _ hx => hx)
    refine ⟨fun e => (by rw [hr] at e; cases e), fun x hx ox hox => ?_⟩
    rw [hr] at hx
    rcases List.mem_cons.1 hx with rfl | hx
    · rw [hox] at h2
      exact go _ ox ta iha hox (by rw [hr]; simp) ha h2.1
    · obtain rfl := List.mem_singleton.1 hx
      rw [hox] at h2
      have := go _ ox tb ihb hox (by rw [hr]; simp) hb h2.2
      rw [← hl] at this
      exact this
theorem adraw_tree (π : OTr) (hm : P.follows .mixedOrders = true) (hall : opsOk P n ops = true) (hsz : π.len = ops.size) (hor : treeOk P ops π (Array.replicate ops.size false) = true) (hPF : PF Q)
    (H : TRo P ops Q π tm h) : ADraw P n ops Q tm h := fun id ro w0 ρ w a Hr T =>
  wpIn_region_any hm (wpAny_of_AAny hall ops.size _ tm h (by have hC := Closed.init (ops := ops); rw [← hsz] at *; exact AAny_of_TRo hPF π _ tm h hC hor H) w0 ρ _ a ρ a.defers (RenLe.refl _) (DT.refl _ _) (Hr.drawn _) T)
def trK (P : Program) (ops : Array Oper) (Q : Exit → Tm → Heap → Prop) (r : Bool) (π : OTr) (tm : Tm) (h : Heap) (o : Option Oper) : Prop := match o with | none => False | some o => aops P ops (dK (TRo P ops Q π) r h Q) [o] tm h
theorem TRo_nil : TRo P ops Q .nil tm h = Q .normal tm h := propext Iff.rfl
theorem TRo_cons {i : Nat} {r : Bool} {π : OTr} : TRo P ops Q (.cons i r π) tm h = trK P ops Q r π tm h (ops[i]?) := by
  simp only [TRo, trK]
theorem TRo_two {i j : Nat} {s t : OTr} : TRo P ops Q (.two i j s t) tm h = (trK P ops Q true s tm h (ops[i]?) ∧ trK P ops Q true t tm h (ops[j]?)) := by
  simp only [TRo, trK]
theorem trK_some {r : Bool} {π : OTr} {o : Oper} : trK P ops Q r π tm h (some o) = aops P ops (dK (TRo P ops Q π) r h Q) [o] tm h := propext Iff.rfl
end
end Go.Proofs.YtcgajolmjjeibaaDoor.Am
