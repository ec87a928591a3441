/- The frame Am, a text beside the others: a region that draws its order, where two operations that change memory may come in either order. Nothing of a program stands here. -/
import Derived.Test.YtcgajolmjjeibaaDoorAmDraw2
import Derived.Test.YtcgajolmjjeibaaDoorAmTac2
set_option linter.unusedVariables false
set_option linter.unusedSimpArgs false
namespace Go.Proofs.YtcgajolmjjeibaaDoor.Am
open Go Go.RowKit
def orderPre (P : Program) (ops : Array Oper) (k : Array Bool → Bool) : List (Nat × Bool) → Array Bool → Bool
  | [], listed => k listed
  | (i, r) :: rest, listed => (match ops[i]? with
    | none => false
    | some o => (Region.ready .any ops listed).contains i && (if calmOp P o.op = true then !r && Region.free .any ops listed i else Region.ready .any ops listed == [i] && (r || solo ops i))) && orderPre P ops k rest (listed.setIfInBounds i true)
def DRp (P : Program) (ops : Array Oper) (Q : Exit → Tm → Heap → Prop) (K : Tm → Heap → Prop) : List (Nat × Bool) → Tm → Heap → Prop
  | [], tm, h => K tm h
  | (i, r) :: rest, tm, h => match ops[i]? with
    | none => False
    | some o => aops P ops (dK (DRp P ops Q K rest) r h Q) [o] tm h
section
variable {P : Program} {w0 w : World} {ρ : Ren} {h h' : Heap} {n : Nat} {tm : Tm} {a : Act} {Q : Exit → Tm → Heap → Prop} {ops : Array Oper} {K : Tm → Heap → Prop}
theorem AAny_of_DRp (hPF : PF Q) {K : Tm → Heap → Prop} {k : Array Bool → Bool} {m : Nat} (hK : ∀ listed tm h, Closed ops listed → k listed = true → K tm h → AAny P ops Q m listed tm h) : ∀ (π : List (Nat × Bool)) (listed : Array Bool) (tm : Tm) (h : Heap), Closed ops listed → orderPre P ops k π listed = true → DRp P ops Q K π tm h → AAny P ops Q (m + π.length) listed tm h := by
  intro π
  induction π with
  | nil => exact fun listed tm h hC h1 h2 => hK listed tm h hC h1 h2
  | cons x rest ih =>
    obtain ⟨i, r⟩ := x
    intro listed tm h hC h1 h2
    unfold orderPre at h1
    unfold DRp at h2
    cases ho : ops[i]? with
    | none => rw [ho] at h2; exact h2.elim
    | some o =>
      simp only [ho, Bool.and_eq_true] at h1 h2
      obtain ⟨⟨h1, h3⟩, h4⟩ := h1
      have hr : i ∈ Region.ready .any ops listed := by simpa using h1
      split at h3
      · rename_i hcalm
        simp only [Bool.and_eq_true, Bool.not_eq_true'] at h3
        obtain ⟨rfl, h3⟩ := h3
        obtain ⟨hc, he⟩ := calm_none (P := P) hcalm
        have key : ∃ v, aval P ops tm h o = some v ∧ DRp P ops Q K rest (aput tm o.dst v) h := by
          have go : stepK P o tm h (aops P ops (dK (DRp P ops Q K rest) false h Q) []) (fun v h' => dK (DRp P ops Q K rest) false h Q (raised v) tm h') → ∃ v, aop P tm h o.op = some v ∧ DRp P ops Q K rest (aput tm o.dst v) h := fun hs => by
            simp only [stepK, stepV, hc, he, calm_np hcalm, calm_na hcalm] at hs
            split at hs
            · rename_i v hv; exact ⟨v, hv, hs.2⟩
            · exact hs.elim
          unfold aops gate at h2
          unfold aval
          split at h2
          · rename_i hg; simp only [hg]; exact go h2
          · rename_i j want hg
            simp only [hg]
            split at h2
            · rename_i b hb
              simp only [hb]
              by_cases e : b = want
              · rw [if_pos e]; exact go (h2.1 e)
              · rw [if_neg e]; exact ⟨_, rfl, (h2.2 (by cases b <;> cases want <;> simp_all)).2⟩
            · rename_i hb; simp only [hb]; exact ⟨_, rfl, h2.2⟩
        obtain ⟨v, hv, hk⟩ := key
        exact AAny_first ho hc hPF (m + rest.length) listed tm h hC (Region.free_spec ho h3) hr hv (ih _ _ _ (hC.set ho hr) h4 hk)
      · simp only [Bool.and_eq_true, beq_iff_eq, Bool.or_eq_true] at h3
        refine ⟨fun h => (by rw [h] at hr; cases hr), fun j hj oj hoj => ?_⟩
        rw [h3.1] at hj
        simp only [List.mem_singleton] at hj
        subst hj
        rw [ho] at hoj; cases hoj
        unfold aops at h2
        refine gate_mono (fun hK => ?_) (fun hK => ih _ _ _ (hC.set ho hr) h4 hK.2) h2
        exact stepV_mono hK (fun u h' hk => ⟨fun hs => hk.1 (h3.2.resolve_right (by rw [hs]; decide)), ih _ _ _ (hC.set ho hr) h4 hk.2⟩) (fun _ _ hx => hx)
/-- Either of two, then what follows. -/
def two (P : Program) (ops : Array Oper) (i j : Nat) (π1 π2 : List (Nat × Bool)) (listed : Array Bool) : Bool :=
  Region.ready .any ops listed == [i, j] && orderOk P ops π1 (listed.setIfInBounds i true) && orderOk P ops π2 (listed.setIfInBounds j true)
theorem AAny_two (hPF : PF Q) {i j : Nat} {oi oj : Oper} {π1 π2 : List (Nat × Bool)} (hi : ops[i]? = some oi) (hj : ops[j]? = some oj) (hl : π1.length = π2.length) {listed : Array Bool} (hC : Closed ops listed) (ht : two P ops i j π1 π2 listed = true)
    (H : drK P ops Q true π1 tm h (ops[i]?) ∧ drK P ops Q true π2 tm h (ops[j]?)) : AAny P ops Q (π1.length + 1) listed tm h := by
  rw [hi, hj] at H
  simp only [drK] at H
  simp only [two, Bool.and_eq_true, beq_iff_eq] at ht
  obtain ⟨⟨hr, h1⟩, h2⟩ := ht
  have go : ∀ (x : Nat) (ox : Oper) (π : List (Nat × Bool)), ops[x]? = some ox → x ∈ Region.ready .any ops listed → orderOk P ops π (listed.setIfInBounds x true) = true → aops P ops (dK (DR P ops Q π) true h Q) [ox] tm h →
      AStep P ops (solo ops x) ox tm h (AAny P ops Q π.length (listed.setIfInBounds x true)) (fun v h' => Q (raised v) tm h') := fun x ox π hx hm ho hs => by
    unfold aops at hs
    have C' := hC.set hx hm
    refine gate_mono (fun hK => ?_) (fun hK => AAny_of_DR hPF π _ _ _ C' ho hK.2) hs
    exact stepV_mono hK (fun u h' hk => ⟨fun _ => hk.1 rfl, AAny_of_DR hPF π _ _ _ C' ho hk.2⟩) (fun _ _ hx => hx)
  refine ⟨fun e => (by rw [hr] at e; cases e), fun x hx ox hox => ?_⟩
  rw [hr] at hx
  rcases List.mem_cons.1 hx with rfl | hx
  · rw [hi] at hox; cases hox
    exact go _ _ π1 hi (by rw [hr]; simp) h1 H.1
  · obtain rfl := List.mem_singleton.1 hx
    rw [hj] at hox; cases hox
    rw [hl]
    exact go _ _ π2 hj (by rw [hr]; simp) h2 H.2
/-- A region that draws its order: two orders are enough, where two operations stand beside each other. -/
theorem adraw_two (π : List (Nat × Bool)) (i j : Nat) (π1 π2 : List (Nat × Bool)) {oi oj : Oper} (hm : P.follows .mixedOrders = true) (hall : opsOk P n ops = true) (hi : ops[i]? = some oi) (hj : ops[j]? = some oj) (hl : π1.length = π2.length) (hsz : π1.length + 1 + π.length = ops.size)
    (hor : orderPre P ops (two P ops i j π1 π2) π (Array.replicate ops.size false) = true) (hPF : PF Q)
    (H : DRp P ops Q (fun tm h => drK P ops Q true π1 tm h (ops[i]?) ∧ drK P ops Q true π2 tm h (ops[j]?)) π tm h) : ADraw P n ops Q tm h := fun id ro w0 ρ w a Hr T =>
  wpIn_region_any hm (wpAny_of_AAny hall ops.size _ tm h (by have hC := Closed.init (ops := ops); rw [← hsz] at *; exact AAny_of_DRp hPF (fun listed tm h C ht HK => AAny_two hPF hi hj hl C ht HK) π _ tm h hC hor H) w0 ρ _ a ρ a.defers (RenLe.refl _) (DT.refl _ _) (Hr.drawn _) T)
def drpK (P : Program) (ops : Array Oper) (Q : Exit → Tm → Heap → Prop) (K : Tm → Heap → Prop) (r : Bool) (π : List (Nat × Bool)) (tm : Tm) (h : Heap) (o : Option Oper) : Prop := match o with | none => False | some o => aops P ops (dK (DRp P ops Q K π) r h Q) [o] tm h
theorem DRp_cons' {i : Nat} {r : Bool} {π : List (Nat × Bool)} : DRp P ops Q K ((i, r) :: π) tm h = drpK P ops Q K r π tm h (ops[i]?) := by
  simp only [DRp, drpK]
theorem drpK_some {r : Bool} {π : List (Nat × Bool)} {o : Oper} : drpK P ops Q K r π tm h (some o) = aops P ops (dK (DRp P ops Q K π) r h Q) [o] tm h := propext Iff.rfl
theorem DRp_nil : DRp P ops Q K [] tm h = K tm h := propext Iff.rfl
theorem DRp_cons {i : Nat} {r : Bool} {rest : List (Nat × Bool)} {o : Oper} (ho : ops[i]? = some o) : DRp P ops Q K ((i, r) :: rest) tm h = aops P ops (dK (DRp P ops Q K rest) r h Q) [o] tm h := by
  simp only [DRp, ho]
end
end Go.Proofs.YtcgajolmjjeibaaDoor.Am
