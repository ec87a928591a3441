/- The frame Am, a text beside the others: a region that draws its order, every order walked. Nothing of a program stands here. -/
import Derived.Test.YtcgajolmjjeibaaDoorAmDraw4
set_option linter.unusedVariables false
set_option linter.unusedSimpArgs false
set_option linter.defProp false
namespace Go.Proofs.YtcgajolmjjeibaaDoor.Am
open Go Go.RowKit
def AAnyE (P : Program) (ops : Array Oper) (Q : Exit → Tm → Heap → Prop) : Nat → Array Bool → Tm → Heap → Prop
  | 0, listed, tm, h => Region.ready .any ops listed = [] ∧ Q .normal tm h
  | fuel + 1, listed, tm, h => (Region.ready .any ops listed = [] → Q .normal tm h) ∧
    ∀ i, i ∈ Region.ready .any ops listed → ∀ o, ops[i]? = some o → AStep P ops true o tm h (AAnyE P ops Q fuel (listed.setIfInBounds i true)) (fun v h' => Q (raised v) tm h')
/-- All orders, as a tree. -/
inductive ETr where
  | nil
  | one (i : Nat) (a : ETr)
  | two (i j : Nat) (a b : ETr)
  | three (i j k : Nat) (a b c : ETr)
def ETr.len : ETr → Nat
  | .nil => 0
  | .one _ a => a.len + 1
  | .two _ _ a _ => a.len + 1
  | .three _ _ _ a _ _ => a.len + 1
def etOk (ops : Array Oper) : ETr → Array Bool → Bool
  | .nil, l => (Region.ready .any ops l).isEmpty
  | .one i a, l => Region.ready .any ops l == [i] && etOk ops a (l.setIfInBounds i true)
  | .two i j a b, l => Region.ready .any ops l == [i, j] && a.len == b.len && etOk ops a (l.setIfInBounds i true) && etOk ops b (l.setIfInBounds j true)
  | .three i j k a b c, l => Region.ready .any ops l == [i, j, k] && a.len == b.len && a.len == c.len && etOk ops a (l.setIfInBounds i true) && etOk ops b (l.setIfInBounds j true) && etOk ops c (l.setIfInBounds k true)
def eK (K : Tm → Heap → Prop) (Q : Exit → Tm → Heap → Prop) : Exit → Tm → Heap → Prop
  | .normal, tm, h => K tm h
  | e, tm, h => Q e tm h
def etK (P : Program) (ops : Array Oper) (K : Tm → Heap → Prop) (Q : Exit → Tm → Heap → Prop) (tm : Tm) (h : Heap) (o : Option Oper) : Prop := match o with | none => False | some o => aops P ops (eK K Q) [o] tm h
def ETo (P : Program) (ops : Array Oper) (Q : Exit → Tm → Heap → Prop) : ETr → Tm → Heap → Prop
  | .nil, tm, h => Q .normal tm h
  | .one i a, tm, h => etK P ops (ETo P ops Q a) Q tm h (ops[i]?)
  | .two i j a b, tm, h => etK P ops (ETo P ops Q a) Q tm h (ops[i]?) ∧ etK P ops (ETo P ops Q b) Q tm h (ops[j]?)
  | .three i j k a b c, tm, h => etK P ops (ETo P ops Q a) Q tm h (ops[i]?) ∧ etK P ops (ETo P ops Q b) Q tm h (ops[j]?) ∧ etK P ops (ETo P ops Q c) Q tm h (ops[k]?)
section
variable {P : Program} {w0 w : World} {ρ : Ren} {h h' : Heap} {n : Nat} {tm : Tm} {a : Act} {Q : Exit → Tm → Heap → Prop} {ops : Array Oper}
theorem etK_step {K : Tm → Heap → Prop} {i : Nat} {o : Oper} (ho : ops[i]? = some o) (H : etK P ops K Q tm h (ops[i]?)) : AStep P ops true o tm h K (fun v h' => Q (raised v) tm h') := by
  rw [ho] at H
  unfold etK aops at H
  exact gate_mono (fun hK => stepV_mono hK (fun u h' hk => ⟨(fun e => by cases e), hk⟩) (fun _ _ hx => hx)) (fun hK => hK) H
theorem AStep.mono {o : Oper} {K K' : Tm → Heap → Prop} {X : Value → Heap → Prop} (hk : ∀ tm h, K tm h → K' tm h) (H : AStep P ops true o tm h K X) : AStep P ops true o tm h K' X :=
  gate_mono (fun hK => stepV_mono hK (fun u h' q => ⟨q.1, hk _ _ q.2⟩) (fun _ _ hx => hx)) (fun hK => hk _ _ hK) H
theorem AAnyE_of_ETo : ∀ (t : ETr) (l : Array Bool) (tm : Tm) (h : Heap), etOk ops t l = true → ETo P ops Q t tm h → AAnyE P ops Q t.len l tm h
  | .nil, l, tm, h, h1, h2 => ⟨by simpa [etOk] using h1, h2⟩
  | .one i a, l, tm, h, h1, h2 => by
    simp only [etOk, Bool.and_eq_true, beq_iff_eq] at h1
    refine ⟨fun e => (by rw [h1.1] at e; cases e), fun x hx o ho => ?_⟩
    rw [h1.1] at hx
    obtain rfl := List.mem_singleton.1 hx
    exact (etK_step ho h2).mono fun tm h => AAnyE_of_ETo a _ tm h h1.2
  | .two i j a b, l, tm, h, h1, h2 => by
    simp only [etOk, Bool.and_eq_true, beq_iff_eq] at h1
    obtain ⟨⟨⟨hr, hl⟩, ha⟩, hb⟩ := h1
    refine ⟨fun e => (by rw [hr] at e; cases e), fun x hx o ho => ?_⟩
    rw [hr] at hx
    simp only [List.mem_cons, List.not_mem_nil, or_false] at hx
    rcases hx with rfl | rfl
    · exact (etK_step ho h2.1).mono fun tm h => AAnyE_of_ETo a _ tm h ha
    · have := (etK_step ho h2.2).mono fun tm h => AAnyE_of_ETo b _ tm h hb
      rw [← hl] at this; exact this
  | .three i j k a b c, l, tm, h, h1, h2 => by
    simp only [etOk, Bool.and_eq_true, beq_iff_eq] at h1
    obtain ⟨⟨⟨⟨⟨hr, hl⟩, hl2⟩, ha⟩, hb⟩, hc⟩ := h1
    refine ⟨fun e => (by rw [hr] at e; cases e), fun x hx o ho => ?_⟩
    rw [hr] at hx
    simp only [List.mem_cons, List.not_mem_nil, or_false] at hx
    rcases hx with rfl | rfl | rfl
    · exact (etK_step ho h2.1).mono fun tm h => AAnyE_of_ETo a _ tm h ha
    · have := (etK_step ho h2.2.1).mono fun tm h => AAnyE_of_ETo b _ tm h hb
      rw [← hl] at this; exact this
    · have := (etK_step ho h2.2.2).mono fun tm h => AAnyE_of_ETo c _ tm h hc
      rw [← hl2] at this; exact this
theorem wpAny_of_AAnyE {ro : Option Nat} (hall : opsOk P n ops = true) : ∀ (fuel : Nat) (listed : Array Bool) (tm : Tm) (h : Heap), AAnyE P ops Q fuel listed tm h →
    ∀ w0 ρ w a ρ0 ds, RenLe ρ0 ρ → DT ρ0 ρ ds a.defers → HRel P w0 ρ h w → TR ρ n tm a → wpAnyIn (FO ro) 0 P .any ops (Post P w0 ρ0 n Q ds) fuel listed a w := by
  intro fuel
  induction fuel with
  | zero => exact fun listed tm h hA w0 ρ w a ρ0 ds hρ D H T => ⟨hA.1, _, tm, h, ρ, hA.2, .inl ⟨rfl, rfl⟩, hρ, H, T, D⟩
  | succ fuel ih =>
    intro listed tm h hA w0 ρ w a ρ0 ds hρ D H T
    refine ⟨fun hr => ⟨_, tm, h, ρ, hA.1 hr, .inl ⟨rfl, rfl⟩, hρ, H, T, D⟩, fun i hi => ?_⟩
    obtain ⟨_, o, ho, _⟩ := mem_ready.1 hi
    have hS := hA.2 i hi o ho
    have hm : o ∈ ops.toList := by simpa using Array.mem_of_getElem? ho
    have hoo := (List.all_eq_true.1 hall) o hm
    simp only [Bool.and_eq_true] at hoo
    have hok : ∀ x, x ∈ o.op.operands → oprOk P n x = true := fun x hx => (List.all_eq_true.1 hoo.2) x (by simpa using hx)
    have step : stepK P o tm h (fun tm' h' => (true = false → Reads h h') ∧ AAnyE P ops Q fuel (listed.setIfInBounds i true) tm' h') (fun v h' => Q (raised v) tm h') →
        o.wpIn (FO ro) 0 P a w (wpAnyIn (FO ro) 0 P .any ops (Post P w0 ρ0 n Q ds) fuel (listed.setIfInBounds i true)) (Post P w0 ρ0 n Q ds) := fun hs =>
      stepK_sound hs H T hok (fun tm' h' ρ' w' a' r H' T' hd hk => ih _ tm' h' hk.2 w0 ρ' w' a' ρ0 ds (hρ.trans r) (by rw [hd]; exact D.mono r) H' T')
        (fun v v' h' ρ' w' r H' hv hk => ⟨raised v, tm, h', ρ', hk, EX.raised hv, hρ.trans r, H', T.mono r, D.mono r⟩)
    have skip : AAnyE P ops Q fuel (listed.setIfInBounds i true) (aput tm o.dst undef) h → wpAnyIn (FO ro) 0 P .any ops (Post P w0 ρ0 n Q ds) fuel (listed.setIfInBounds i true) (a.put o.dst undef) w :=
      fun hk => ih _ _ h hk w0 ρ w _ ρ0 ds hρ (by rw [put_defers]; exact D) H (T.put VR.undef)
    unfold wpOpIn
    simp only [ho]
    unfold AStep gate at hS
    split at hS
    · rename_i hg
      rw [if_pos (by simp [Region.wanted, hg])]
      exact step hS
    · rename_i j want hg
      have hy := yielded_rel hall T j
      split at hS
      · rename_i b hb
        by_cases e : b = want
        · rw [if_pos (by simp [Region.wanted, hg, hy, hb, e])]
          exact step (hS.1 e)
        · rw [if_neg (by simp [Region.wanted, hg, hy, hb, e])]
          exact ⟨FO_about, skip (hS.2 (by cases b <;> cases want <;> simp_all))⟩
      · rename_i hb
        rw [if_neg (by simp [Region.wanted, hg, hy, hb])]
        exact ⟨FO_about, skip hS⟩
theorem adraw_all (t : ETr) (hm : P.follows .mixedOrders = true) (hall : opsOk P n ops = true) (hsz : t.len = ops.size) (hor : etOk ops t (Array.replicate ops.size false) = true) (H : ETo P ops Q t tm h) : ADraw P n ops Q tm h := fun id ro w0 ρ w a Hr T =>
  wpIn_region_any hm (wpAny_of_AAnyE hall ops.size _ tm h (by rw [← hsz] at *; exact AAnyE_of_ETo t _ tm h hor H) w0 ρ _ a ρ a.defers (RenLe.refl _) (DT.refl _ _) (Hr.drawn _) T)
/-- The same, told by what holds behind it. -/
theorem adraw_mid (M : Tm → Heap → Prop) (t : ETr) (hm : P.follows .mixedOrders = true) (hall : opsOk P n ops = true) (hsz : t.len = ops.size) (hor : etOk ops t (Array.replicate ops.size false) = true)
    (H : ETo P ops (fun e tm h => e = .normal ∧ M tm h) t tm h) (K : ∀ tm h, M tm h → Q .normal tm h) : ADraw P n ops Q tm h := fun id =>
  AWp.mono (adraw_all t hm hall hsz hor H id) fun e tm h q => by rw [q.1]; exact K tm h q.2
theorem ETo_nil : ETo P ops Q .nil tm h = Q .normal tm h := propext Iff.rfl
theorem ETo_one {i : Nat} {t : ETr} : ETo P ops Q (.one i t) tm h = etK P ops (ETo P ops Q t) Q tm h (ops[i]?) := propext Iff.rfl
theorem ETo_two {i j : Nat} {s t : ETr} : ETo P ops Q (.two i j s t) tm h = (etK P ops (ETo P ops Q s) Q tm h (ops[i]?) ∧ etK P ops (ETo P ops Q t) Q tm h (ops[j]?)) := propext Iff.rfl
theorem ETo_three {i j k : Nat} {s t u : ETr} : ETo P ops Q (.three i j k s t u) tm h = (etK P ops (ETo P ops Q s) Q tm h (ops[i]?) ∧ etK P ops (ETo P ops Q t) Q tm h (ops[j]?) ∧ etK P ops (ETo P ops Q u) Q tm h (ops[k]?)) := propext Iff.rfl
theorem etK_some {K : Tm → Heap → Prop} {o : Oper} : etK P ops K Q tm h (some o) = aops P ops (eK K Q) [o] tm h := propext Iff.rfl
theorem eK_normal {K : Tm → Heap → Prop} : eK K Q .normal tm h = K tm h := propext Iff.rfl
theorem eK_raised {K : Tm → Heap → Prop} {v : Value} : eK K Q (raised v) tm h = Q (raised v) tm h := propext Iff.rfl
/-- The equations of such a walk. -/
def we := And.intro @ETo_nil <| And.intro @ETo_one <| And.intro @ETo_two <| And.intro @ETo_three <| And.intro @etK_some <| And.intro @eK_normal <| @eK_raised
end
end Go.Proofs.YtcgajolmjjeibaaDoor.Am
