/- The frame Am, a text beside the others: ranges over functions: the record of a loop, its rounds, the statement. Nothing of a program stands here. -/
import Derived.Test.YtiebaefhlacekaaGreatDoorAmKind3
set_option linter.unusedVariables false
set_option linter.unusedSimpArgs false
namespace Go.Proofs.YtiebaefhlacekaaGreatDoor.Am
open Go Go.RowKit
def bindTm (ps : Array Tmp) (args : Array Value) (tm : Tm) : Tm := (ps.zip args).toList.foldl (fun t x => aput t (some x.1) x.2) tm
theorem bind1 {p : Tmp} {x : Value} {tm : Tm} : bindTm #[p] #[x] tm = aput tm (some p) x := by simp [bindTm]
theorem bind2 {p q : Tmp} {x y : Value} {tm : Tm} : bindTm #[p, q] #[x, y] tm = aput (aput tm (some p) x) (some q) y := by simp [bindTm]
/-- How a round's body may be left. -/
def roundK (b : Nat) (n : Nat) (tm : Tm) (ps : Array Tmp) (asg body : Code) (R : Value → Heap → Prop) : Exit → Tm → Heap → Prop
  | .normal, _, h => h.obj b = some (.loop n tm .busy none ps asg body) ∧ R (.bool true) (h.oput b (.loop n tm .ready none ps asg body))
  | .ret, _, h => h.obj b = some (.loop n tm .busy none ps asg body) ∧ R (.bool false) (h.oput b (.loop n tm .done (some .ret) ps asg body))
  | .exit i, _, h => h.obj b = some (.loop n tm .busy none ps asg body) ∧ R (.bool false) (h.oput b (.loop n tm .done (some (.exit i)) ps asg body))
  | _, _, _ => False
def afterK (Q : Exit → Tm → Heap → Prop) : Option Code → Tm → Heap → Prop
  | none, tm, h => Q .normal tm h
  | some .ret, tm, h => Q .ret tm h
  | some (.exit i), tm, h => Q (.exit i) tm h
  | _, _, _ => False
/-- The heap when a range over a function begins: a place for the mark, the record. -/
def Heap.rangeH (h : Heap) (n : Nat) (tm : Tm) (ps : Array Tmp) (asg body : Code) : Heap := h.more.opush (.loop n tm .ready none ps asg body)
section
variable {P : Program} {w0 w : World} {ρ : Ren} {h : Heap} {n : Nat} {tm : Tm} {a : Act} {Q : Exit → Tm → Heap → Prop}
theorem loop_of (H : HRel P w0 ρ h w) {b : Nat} {st : LoopState} {pend : Option Code} {ps : Array Tmp} {asg body : Code} (hb : h.obj b = some (.loop n tm st pend ps asg body)) :
    ∃ L r, ρ b = some L ∧ w.heap[L.blk]? = some (.loop r) ∧ r.state = st ∧ r.pending = pend ∧ r.params = ps ∧ r.assign = asg ∧ r.body = body ∧ r.tmps.size = n ∧ ∀ t, t < n → VR ρ (tm t) (r.tmps.getD t undef) := by
  obtain ⟨_, L, o, g1, _, _, g4, g5⟩ := H.mo.objs b _ hb
  cases o with
  | loop r => exact ⟨L, r, g1, g4, g5⟩
  | _ => exact absurd g5 (by simp [ObjR])
theorem TR.bind {ds : List Deferred} : ∀ (ps : List (Tmp × Value)) (qs : List (Tmp × Value)) {tm : Tm} {tmps : Array Value}, ps.length = qs.length → (∀ (i : Nat) p q, ps[i]? = some p → qs[i]? = some q → p.1 = q.1 ∧ VR ρ p.2 q.2) →
    TR ρ n tm { tmps := tmps, defers := ds } → TR ρ n (ps.foldl (fun t x => aput t (some x.1) x.2) tm) { tmps := qs.foldl (fun t x => t.setIfInBounds x.1 x.2) tmps, defers := ds }
  | [], [], _, _, _, _, T => T
  | [], _ :: _, _, _, h, _, _ => by simp at h
  | _ :: _, [], _, _, h, _, _ => by simp at h
  | p :: ps, q :: qs, tm, tmps, hl, hr, T => by
    obtain ⟨e, hv⟩ := hr 0 p q rfl rfl
    have := TR.put (d := some p.1) T hv
    refine TR.bind ps qs (by simpa using hl) (fun i x y hx hy => hr (i + 1) x y (by simpa using hx) (by simpa using hy)) ?_
    simp only [← e]; exact this
/-- What the call of a record's yield does, out of the walk of its round. -/
theorem AYield.of {b : Nat} {ps : Array Tmp} {asg body : Code} {args : Array Value} {R : Value → Heap → Prop} (ho : h.obj b = some (.loop n tm .ready none ps asg body)) (hsz : args.size = ps.size)
    (hok : (codeOk P n asg && codeOk P n body && flat asg && flat body) = true)
    (H : W P n asg (thenK (fun tm1 h1 => h1.obj b = some (.loop n tm .ready none ps asg body) ∧ W P n body (roundK b n tm ps asg body R) tm1 (h1.oput b (.loop n tm .busy none ps asg body))) (fun _ _ _ => False)) (bindTm ps args tm) h) :
    AYield P b args h R := by
  intro w0 ρ w args' Hr A
  simp only [Bool.and_eq_true] at hok
  obtain ⟨⟨⟨o1, o2⟩, o3⟩, o4⟩ := hok
  obtain ⟨L, r, hL, hw, rfl', rfl'', hps, rfl, rfl, hts, hvs⟩ := loop_of Hr ho
  subst hps
  have hsz' : args'.size = r.params.size := by rw [← A.1]; exact hsz
  refine ⟨L, r.fn, _, r.assign, r.body, hL, run_yield hw hsz', roundIn_of_wpIn (F := Fence.wide) trivial ?_⟩
  have T0 : TR ρ n (bindTm r.params args tm) { tmps := (r.params.zip args').foldl (fun t x => t.setIfInBounds x.1 x.2) r.tmps, defers := [] } := by
    have := TR.bind (ρ := ρ) (n := n) (ds := []) (r.params.zip args).toList (r.params.zip args').toList (tm := tm) (tmps := r.tmps) (by simp [A.1]) (fun i p q hp hq => by
      simp only [Array.toList_zip, List.getElem?_zip_eq_some] at hp hq
      refine ⟨?_, A.2 i p.2 q.2 (by simpa using hp.2) (by simpa using hq.2)⟩
      have := hp.1.symm.trans hq.1
      simpa using this) ⟨hts, hvs⟩
    rw [← Array.foldl_toList]; exact this
  refine wpIn_mono (W_sound (ro := some L.blk) r.assign _ _ h o1 (.inr o3) H w0 ρ w _ Hr T0) ?_
  rintro e a1 w1 ⟨e0, tm1, h1, ρ1, q, x, r1, H1, T1, _⟩
  rcases x with ⟨rfl, rfl⟩ | ⟨i, rfl, rfl⟩ | ⟨rfl, rfl⟩ | ⟨v, v', rfl, rfl, hv⟩
  · obtain ⟨q1, q2⟩ := q
    obtain ⟨L1, r2, hL1, hw1, s1, s2, s3, s4, s5, s6, s7⟩ := loop_of H1 q1
    have e1 := r1 _ _ hL
    rw [hL1] at e1; obtain rfl := Option.some.inj e1
    refine ⟨_, run_beginRound hw1 s1, ?_⟩
    have H2 := H1.oput (ao' := .loop n tm .busy none r.params r.assign r.body) (o' := .loop { r2 with state := .busy }) q1 hL1 ⟨rfl, s2, s3, s4, s5, s6, s7⟩
    refine wpIn_mono (W_sound (ro := some L1.blk) r.body _ _ _ o2 (.inr o4) q2 w0 ρ1 _ a1 H2 T1) ?_
    rintro e a3 w3 ⟨e0, tm3, h3, ρ3, q, x, r3, H3, T3, _⟩
    have fin : ∀ (jump : Option Code) (st : LoopState) (u : Bool), h3.obj b = some (.loop n tm .busy none r.params r.assign r.body) → st = (if jump.isNone then .ready else .done) → u = jump.isNone → R (.bool u) (h3.oput b (.loop n tm st jump r.params r.assign r.body)) →
        ∃ v w', (Instr.endRound L1.blk jump).run P w3 = .ok v w' ∧ CPost P w0 ρ R (fun _ _ => False) (.returned v) w' := fun jump st u g hst hu hR => by
      obtain ⟨L3, r4, hL3, hw3, t1, t2, t3, t4, t5, t6, t7⟩ := loop_of H3 g
      have e3 := r3 _ _ hL1
      rw [hL3] at e3; cases e3
      refine ⟨_, _, run_endRound jump hw3, ?_⟩
      have H4 := H3.oput (ao' := .loop n tm st jump r.params r.assign r.body) (o' := .loop { r4 with state := if jump.isNone then .ready else .done, pending := jump }) g hL3 ⟨hst.symm, rfl, t3, t4, t5, t6, t7⟩
      subst hu
      exact ⟨ρ3, _, _, _, r1.trans r3, H4, VR.bool _, .inl ⟨rfl, hR⟩⟩
    rcases x with ⟨rfl, rfl⟩ | ⟨i, rfl, rfl⟩ | ⟨rfl, rfl⟩ | ⟨v, v', rfl, rfl, hv⟩
    · exact fin none .ready true q.1 rfl rfl q.2
    · exact fin (some (.exit i)) .done false q.1 rfl rfl q.2
    · exact fin (some .ret) .done false q.1 rfl rfl q.2
    · exact q.elim
  · exact q.elim
  · exact q.elim
  · exact q.elim
/-- A range over a function. -/
theorem range_of {f : Operand} {ps : Array Tmp} {asg body : Code} {g : FuncId} {first cap : Array Value} (hok : codeOk P n (.rangeFunc f ps asg body) = true) (hf : ev tm f = .func (.func g) first cap) (hb : hasBody P g = true)
    (H : ACallsX P g (first ++ #[.func (.yield (h.size + 1)) #[] #[]] ++ cap) (h.rangeH n tm ps asg body) (fun v h' => ∃ st pend, h'.obj (h.size + 1) = some (.loop n tm st pend ps asg body) ∧ st ≠ .busy ∧ afterK Q pend tm (h'.oput (h.size + 1) (.loop n tm .exhausted pend ps asg body)))
      (fun v h' => Q (raised v) tm h')) : AWpR none P n (.rangeFunc f ps asg body) Q tm h := by
  intro w0 ρ w a Hr T
  simp only [codeOk, Bool.and_eq_true] at hok
  obtain ⟨⟨⟨⟨⟨o0, _⟩, o1⟩, o2⟩, o3⟩, o4⟩ := hok
  refine wpIn_rangeFunc fun fn hfn => ?_
  have hfr := ev_rel Hr T o0
  rw [hf] at hfr
  obtain ⟨first', cap', he, hr1, hr2⟩ := hfr.func_inv'
  have M := Hr.mark
  have hsz1 : (w.alloc (.deferred (some []))).heap.size = w.heap.size + 1 := World.size_alloc _ _
  have le1 := Hr.le_add ⟨w.heap.size, 0, 0, 0, true⟩
  have M2 := M.opush (ao := .loop n tm .ready none ps asg body) (o := .loop { state := .ready, pending := none, fn := fn, tmps := a.tmps, params := ps, assign := asg, body := body, defers := w.heap.size })
    ⟨rfl, rfl, rfl, rfl, rfl, T.size, fun t ht => (T.vals t ht).mono le1⟩
  have le2 := M.le_add ⟨(w.alloc (.deferred (some []))).heap.size, 0, 0, 0, false⟩
  rw [hsz1] at M2 le2
  have hy : VR (Ren.add (Ren.add ρ h.size ⟨w.heap.size, 0, 0, 0, true⟩) h.more.size ⟨w.heap.size + 1, 0, 0, 0, false⟩) (.func (.yield (h.size + 1)) #[] #[]) (.func (.yield (w.heap.size + 1)) #[] #[]) :=
    VR.func' (.inr ⟨_, _, rfl, rfl, _, Ren.add_self, rfl⟩) AR.nil AR.nil
  have hA : AR (Ren.add (Ren.add ρ h.size ⟨w.heap.size, 0, 0, 0, true⟩) h.more.size ⟨w.heap.size + 1, 0, 0, 0, false⟩) (first ++ #[.func (.yield (h.size + 1)) #[] #[]] ++ cap) (first' ++ #[.func (.yield (w.heap.size + 1)) #[] #[]] ++ cap') :=
    ((hr1.mono (le1.trans le2)).append (AR.push AR.nil hy)).append (hr2.mono (le1.trans le2))
  let W1 : World := (w.alloc (.deferred (some []))).alloc (.loop { state := .ready, pending := none, fn := fn, tmps := a.tmps, params := ps, assign := asg, body := body, defers := w.heap.size })
  refine ⟨w.heap.size + 1, [{ target := .collected w.heap.size, args := #[] }], W1, { target := .fn (.func g) cap', args := first' ++ #[.func (.yield (w.heap.size + 1)) #[] #[]] }, W1, g, first' ++ #[.func (.yield (w.heap.size + 1)) #[] #[]] ++ cap', W1,
    run_enterLoop_outer fn a.tmps ps asg body, ?_, fun _ _ => trivial, ?_, (fun h => by cases h), ?_⟩
  · have hm : Array.map a.eval #[Operand.const (.func (.yield (w.heap.size + 1)) #[] #[])] = #[.func (.yield (w.heap.size + 1)) #[] #[]] := by simp [Act.eval]
    simp only [rangeCall, resolve, he, Deferred.ofValue, Sem.run_bind, Sem.run_pure, Result.andThen_ok, hm]
  · unfold hasBody at hb
    split at hb
    · rename_i fn0 hfn0
      simp only [Bool.and_eq_true, bne_iff_ne, ne_eq] at hb
      have hbn : fn0.body.isNone = false := by cases hbd : fn0.body with
        | none => rw [hbd] at hb; simp at hb
        | some _ => rfl
      simp only [invoke, callFunc, run_program, Sem.run_bind, Result.andThen_ok, hfn0, beq_iff_eq, hb.2, if_false, hbn, Bool.false_eq_true, Sem.run_pure]
    · cases hb
  · refine (callsIn_FO (ro := none) (H w0 _ _ _ M2 hA)).mono fun e w3 hp => ?_
    obtain ⟨ρ3, h3, v, v', r3, H3, hv, hq⟩ := hp
    have hmark : ρ3 h.size = some ⟨w.heap.size, 0, 0, 0, true⟩ := r3 _ _ (le2 _ _ Ren.add_self)
    have D : DT ρ ρ3 a.defers ([{ target := .collected w.heap.size, args := #[] }] ++ a.defers) := ⟨[(h.size, w.heap.size)], by simp, rfl, fun x hx => by
      rw [List.mem_singleton] at hx; subst hx
      exact ⟨Hr.fresh _ (Nat.le_refl _), _, hmark, rfl, rfl⟩⟩
    have r0 : RenLe ρ ρ3 := (le1.trans le2).trans r3
    have T3 : TR ρ3 n tm { a with defers := [{ target := .collected w.heap.size, args := #[] }] ++ a.defers } := ⟨T.size, fun t ht => (T.vals t ht).mono r0⟩
    rcases hq with ⟨rfl, st, pend, q1, q2, q3⟩ | ⟨rfl, hq⟩
    · obtain ⟨L, r, hL, hw3, s1, s2, s3, s4, s5, s6, s7⟩ := loop_of H3 q1
      have e1 := r3 _ _ (show Ren.add (Ren.add ρ h.size ⟨w.heap.size, 0, 0, 0, true⟩) h.more.size ⟨w.heap.size + 1, 0, 0, 0, false⟩ (h.size + 1) = some ⟨w.heap.size + 1, 0, 0, 0, false⟩ from Ren.add_self)
      rw [hL] at e1; cases e1
      have H4 := H3.oput (ao' := .loop n tm .exhausted pend ps asg body) (o' := .loop { r with state := .exhausted }) q1 hL ⟨rfl, s2, s3, s4, s5, s6, s7⟩
      refine ⟨r.pending, _, run_endLoop hw3 (by rw [s1]; exact q2), ?_⟩
      rw [s2] at H4 ⊢
      cases pend with
      | none => exact ⟨.normal, tm, _, ρ3, q3, .inl ⟨rfl, rfl⟩, r0, H4, T3, D⟩
      | some c =>
        cases c with
        | ret => exact wpIn_ret ⟨.ret, tm, _, ρ3, q3, .inr (.inr (.inl ⟨rfl, rfl⟩)), r0, H4, T3, D⟩
        | exit i => exact wpIn_exit ⟨.exit i, tm, _, ρ3, q3, .inr (.inl ⟨i, rfl, rfl⟩), r0, H4, T3, D⟩
        | _ => exact q3.elim
    · exact ⟨raised v, tm, h3, ρ3, hq, EX.raised hv, r0, H3, T3, D⟩
end
end Go.Proofs.YtiebaefhlacekaaGreatDoor.Am
