/- The frame Am, ninth text: all operations that make or write memory as one function (aeff); a world's run of them agrees. Nothing of a program stands here. -/
import Derived.Test.YtgfccaaalkkdlaaAmEffX
import Derived.Test.YtgfccaaalkkdlaaAmObjS
set_option linter.unusedVariables false
set_option linter.unusedSimpArgs false
namespace Go.Proofs.Ytgfccaaalkkdlaa.Am
open Go Go.RowKit

def astore (P : Program) (h : Heap) (t : TypeId) (p v : Value) : Option Heap :=
  match p with
  | .pointer (some a) =>
    (match h.get a.block with
    | none => none
    | some k =>
      if k.live = true ∧ k.ro = false ∧ asz P t = some v.cells.size ∧ a.off + v.cells.size ≤ k.cells.length ∧ v.cells.all one = true then some (h.store a.block k a.off v.cells.toList) else none)
  | _ => none
def firstOf (i : Nat) (zero : Array Value) : Array Value := (Array.range i).map (zero[· % zero.size]!)
def abuildSlice (P : Program) (h : Heap) (t : TypeId) (len : Nat) (parts : Array (Nat × Value)) : Option (Value × Heap) :=
  match P.underlying t with
  | some (.slice e) =>
    (match asz P e with
    | none => none
    | some s =>
      if len * s ≤ 16777216 then
        (match (if len * s = 0 then some #[] else (azero P e).map Value.cells) with
        | none => none
        | some zero =>
          match Instr.fill (fun i => some (i * s, s)) (firstOf (len * s) zero) parts.toList with
          | none => none
          | some cells => if cells.all one = true ∧ len * s ≤ cells.size then some (.slice (some ⟨h.size, 0, none⟩) len (len + 1), h.new e cells.toList) else none)
      else none)
  | _ => none
def amakeSlice (P : Program) (h : Heap) (t : TypeId) (l c : Value) : Option (Value × Heap) :=
  match P.underlying t, l, c with
  | some (.slice e), .int _ l, .int _ c =>
    (match P.info? e, azero P e with
    | some i, some z =>
      if 0 ≤ l ∧ l ≤ c ∧ c ≤ 140737488355328 ∧ (i.bytes : Int) * c ≤ 281474976710656 ∧ z.cells.all one = true ∧ z.cells.size = i.size then
        some (.slice (some ⟨h.size, 0, none⟩) l.toNat (c.toNat + 1), h.new e (firstOf (c.toNat * i.size) z.cells).toList)
      else none
    | _, _ => none)
  | _, _, _ => none
def aeff (P : Program) (tm : Tm) (h : Heap) : Op → Option (Value × Heap)
  | .alloc e => (match azero P e, asz P e with | some z, some _ => if z.cells.all one = true then some (.pointer (some ⟨h.size, 0, none⟩), h.new e z.cells.toList) else none | _, _ => none)
  | .box e x => (match asz P e with | some _ => if (ev tm x).cells.all one = true then some (.pointer (some ⟨h.size, 0, none⟩), h.new e (ev tm x).cells.toList) else none | none => none)
  | .buildSlice t len parts => abuildSlice P h t len (parts.map fun (i, x) => (i, ev tm x))
  | .makeSlice t l c => amakeSlice P h t (ev tm l) (ev tm c)
  | .store t p x => (match astore P h t (ev tm p) (ev tm x) with | some h' => some (undef, h') | none => none)
  | .call { callee := .builtin .append, args := args, argTypes := ts } =>
    (match args.toList, ts.toList with | [s, x], [t, t2] => aappend P h t t2 (ev tm s) (ev tm x) | _, _ => none)
  | .call { callee := .builtin .clear, args := args, argTypes := ts } => (match args.toList, ts.toList with | [x], [t] => aclear P h t (ev tm x) | _, _ => none)
  | .call { callee := .builtin .copy, args := args, argTypes := ts } => (match args.toList, ts.toList with | [d, x], [t, _] => acopy P h t (ev tm d) (ev tm x) | _, _ => none)
  | .call { callee := .builtin .delete, args := args, argTypes := ts } => (match args.toList, ts.toList with | [m, k], [t, _] => adeleteM P h t (ev tm m) (ev tm k) | _, _ => none)
  | .makeMap t none => amakeMapM P h t
  | .lookup t m k ok => alookupM P h t (ev tm m) (ev tm k) ok
  | .mapUpdate t m k x => amapUpdateM P h t (ev tm m) (ev tm k) (ev tm x)
  | .call { callee := .builtin .len, args := args, argTypes := ts } => (match args.toList, ts.toList with | [x], [t] => alenMap P h t (ev tm x) | _, _ => none)
  | .convert s t x => aconvE P h s t (ev tm x)
  | _ => none

section
variable {P : Program} {w0 w : World} {ρ : Ren} {h : Heap} {n : Nat} {tm : Tm} {a : Act}
theorem all_one {cs : Array Value} (h1 : cs.all one = true) : ∀ v, v ∈ cs.toList → one v = true := fun v hv => (Array.all_eq_true'.1 h1) v (by simpa using hv)
theorem all_one' {cs cs' : Array Value} (hc : AR ρ cs cs') (h1 : cs.all one = true) : ∀ v, v ∈ cs'.toList → one v = true := fun v hv => by
  obtain ⟨j, hj⟩ := List.mem_iff_getElem?.1 hv
  rw [Array.getElem?_toList] at hj
  have hjl := (Array.getElem?_eq_some_iff.1 hj).1
  have hjn : j < cs.size := by have := hc.1; omega
  have := hc.2 j cs[j] v (by simp [hjn]) hj
  rw [this.one_eq]
  exact all_one h1 _ (by simp)
theorem store_rel (H : HRel P w0 ρ h w) {t : TypeId} {p p' v v' : Value} (hp : VR ρ p p') (hv : VR ρ v v') {h' : Heap} (hs : astore P h t p v = some h') :
    ∃ w', (Instr.storeAt t p' v').run P w = .ok () w' ∧ HRel P w0 ρ h' w' := by
  unfold astore at hs
  split at hs
  · rename_i a
    split at hs
    · cases hs
    rename_i k hk
    split at hs
    · rename_i hl
      obtain ⟨l1, l2, l3, l4, l5⟩ := hl
      cases hs
      obtain ⟨a', rfl, hsp, L, hL, rfl⟩ := hp.ptr_inv
      have B := H.br hk hL
      obtain ⟨_, htop, arr, tt, fr, ha, hsz, hfr⟩ := B.own l2
      have hc := hv.cells
      obtain ⟨w1, s1, s2, s3, s4, s5, s6, arr', s7, s8, s9⟩ := run_cells (P := P) L.blk (L.off + a.off) tt fr v'.cells.toList 0 arr w (all_one' hc l5) ha (by have := hc.1; simp; omega) (fun j hj => hfr.2.1 j (by omega))
      refine ⟨w1, ?_, H.stored hk hL l1 l2 (i := a.off) (vs := v.cells.toList) (vs' := v'.cells.toList) (by simpa using l4) (by simpa using hc.1.symm) (fun j x y hx hy => ⟨all_one l5 x (List.mem_of_getElem? hx), hc.2 j x y (by simpa using hx) (by simpa using hy)⟩) s2 s3 s4 s5 s6
        (fun arr2 t2 fr2 h2 => by rw [ha] at h2; cases h2; exact ⟨arr', s7, s8, fun j => by rw [s9 j]; simp only [Nat.add_zero]⟩)⟩
      have hsz2 : (sizeOf t).run P w = .ok v'.cells.size w := by rw [← hc.1]; exact run_sizeOf l3 w
      simp [Instr.storeAt, Instr.sureAddr, storeVar, hsz2, s1]
    · cases hs
  · cases hs
theorem firstOf_rel {zero : Array Value} (hz : AR ρ zero zero) (i : Nat) (h0 : i ≠ 0 → 0 < zero.size) : AR ρ (firstOf i zero) (firstOf i zero) := by
  refine ⟨rfl, fun j x y hx hy => ?_⟩
  rw [hx] at hy; cases hy
  simp only [firstOf, Array.getElem?_map, Option.map_eq_some_iff] at hx
  obtain ⟨q, hq, rfl⟩ := hx
  have hj : j < i := by have := (Array.getElem?_eq_some_iff.1 hq).1; simpa using this
  have hq' : q = j := by simp [Array.getElem?_range, hj] at hq; exact hq.symm
  subst hq'
  have hpos := h0 (by omega)
  have hlt : q % zero.size < zero.size := Nat.mod_lt _ hpos
  have : zero[q % zero.size]! = zero[q % zero.size] := getElem!_pos zero _ hlt
  rw [this]
  exact hz.2 _ _ _ (Array.getElem?_eq_getElem hlt) (Array.getElem?_eq_getElem hlt)
theorem buildSlice_rel (H : HRel P w0 ρ h w) {t : TypeId} {len : Nat} {ps ps' : Array (Nat × Value)} (hl : ps.size = ps'.size) (hp : ∀ (i : Nat) (p q : Nat × Value), ps[i]? = some p → ps'[i]? = some q → p.1 = q.1 ∧ VR ρ p.2 q.2)
    {v : Value} {h' : Heap} (hv : abuildSlice P h t len ps = some (v, h')) : ∃ v' w' ρ', (Instr.buildSlice t len ps').run P w = .ok v' w' ∧ RenLe ρ ρ' ∧ HRel P w0 ρ' h' w' ∧ VR ρ' v v' := by
  unfold abuildSlice at hv
  split at hv
  · rename_i e hd
    split at hv
    · cases hv
    rename_i s hs
    split at hv
    · rename_i hlim
      split at hv
      · cases hv
      rename_i zero hzero
      split at hv
      · cases hv
      rename_i cells hcells
      split at hv
      · rename_i hone
        cases hv
        have hz : (if len * s = 0 then pure #[] else do pure (← zeroValue e).cells : Sem (Array Value)).run P w = .ok zero w ∧ AR ρ zero zero ∧ (len * s ≠ 0 → 0 < zero.size ∨ zero = #[]) := by
          split at hzero
          · rename_i h0
            cases hzero
            exact ⟨by simp [h0], AR.nil, fun h1 => absurd h0 h1⟩
          · rename_i h0
            obtain ⟨z, hz, rfl⟩ := Option.map_eq_some_iff.1 hzero
            obtain ⟨z1, z2, _⟩ := azero_rel (w := w) (ρ := ρ) hz
            refine ⟨by simp [h0, z1], z2, fun _ => ?_⟩
            by_cases e0 : z.cells.size = 0
            · exact .inr (by simpa using e0)
            · exact .inl (by omega)
        obtain ⟨z1, z2, z3⟩ := hz
        have hF : AR ρ (firstOf (len * s) zero) (firstOf (len * s) zero) := by
          by_cases h0 : len * s = 0
          · rw [h0]; exact firstOf_rel z2 0 (fun h => absurd rfl h)
          · rcases z3 h0 with h1 | h1
            · exact firstOf_rel z2 _ (fun _ => h1)
            · subst h1
              refine ⟨rfl, fun j x y hx hy => ?_⟩
              rw [hx] at hy; cases hy
              simp only [firstOf, Array.getElem?_map, Option.map_eq_some_iff] at hx
              obtain ⟨q, hq, rfl⟩ := hx
              exact constOk_VR rfl
        obtain ⟨cells', hr1, hr2⟩ := fill_rel (ρ := ρ) (fun i => some (i * s, s)) ps.toList ps'.toList _ _ (by simpa using hl) (fun i p q h1 h2 => hp i p q (by simpa using h1) (by simpa using h2)) hF cells hcells
        obtain ⟨ρ', r1, r2, r3⟩ := new_rel H hs (all_one hone.1) (cs := cells') (by simpa using hr2) #[]
        simp only [Array.append_empty] at r2 r3
        have hrun : (Instr.buildSlice t len ps').run P w = .ok (.slice (some ⟨w.heap.size, 0, none⟩) len len) (w.alloc (.cells cells' e)) := by
          have hlim' : ¬ (len * s > 2 ^ 24) := by omega
          have hr1' : Instr.fill (fun i => some (i * s, s)) ((Array.range (len * s)).map (zero[· % zero.size]!)) ps'.toList = some cells' := hr1
          by_cases h0 : len * s = 0
          · rw [if_pos h0] at hzero; cases hzero
            simp only [Instr.buildSlice, Sem.run_bind, run_underlying hd, Result.andThen_ok, run_sizeOf hs, if_neg hlim', if_pos h0, Sem.run_pure, hr1']
            simp [newRow]
          · rw [if_neg h0] at hzero
            obtain ⟨z, hz, rfl⟩ := Option.map_eq_some_iff.1 hzero
            obtain ⟨zz1, _⟩ := azero_rel (w := w) (ρ := ρ) hz
            simp only [Instr.buildSlice, Sem.run_bind, run_underlying hd, Result.andThen_ok, run_sizeOf hs, if_neg hlim', if_neg h0, Sem.run_pure, zz1, hr1']
            simp [newRow]
        refine ⟨_, _, ρ', hrun, r1, r2, VR.slice ⟨rfl, Nat.le_refl _, .inr rfl, .inl ⟨rfl, _, r3, by simp, ?_⟩⟩⟩
        have := hr2.1
        simp; omega
      · cases hv
    · cases hv
  · cases hv
theorem firstOf_size (i : Nat) (z : Array Value) : (firstOf i z).size = i := by simp [firstOf]
theorem firstOf_one {i : Nat} {z : Array Value} (h0 : i ≠ 0 → 0 < z.size) (h1 : z.all one = true) : (firstOf i z).all one = true := by
  refine Array.all_eq_true'.2 fun x hx => ?_
  simp only [firstOf, Array.mem_map, Array.mem_range] at hx
  obtain ⟨q, hq, rfl⟩ := hx
  have hpos := h0 (by omega)
  have hlt : q % z.size < z.size := Nat.mod_lt _ hpos
  rw [getElem!_pos z _ hlt]
  exact (Array.all_eq_true'.1 h1) _ (Array.getElem_mem hlt)
theorem makeSlice_rel (H : HRel P w0 ρ h w) {t : TypeId} {l c l' c' : Value} (hl : VR ρ l l') (hc : VR ρ c c') {v : Value} {h' : Heap} (hv : amakeSlice P h t l c = some (v, h')) :
    ∃ v' w' ρ', (Instr.makeSlice t l' c').run P w = .ok v' w' ∧ RenLe ρ ρ' ∧ HRel P w0 ρ' h' w' ∧ VR ρ' v v' := by
  unfold amakeSlice at hv
  split at hv
  · rename_i e k1 x k2 y hd
    split at hv
    · rename_i i z hi hz
      split at hv
      · rename_i hcond
        obtain ⟨q1, q2, q3, q4, q5, q6⟩ := hcond
        cases hv
        rw [hl.int_inv, hc.int_inv]
        obtain ⟨z1, z2, i', hi', hz'⟩ := azero_rel (w := w) (ρ := ρ) hz
        have hs : asz P e = some i.size := by simp [asz, hi]
        have hpos : y.toNat * i.size ≠ 0 → 0 < z.cells.size := fun h0 => by
          rw [q6]; rcases Nat.eq_zero_or_pos i.size with h1 | h1
          · rw [h1] at h0; simp at h0
          · exact h1
        have hF := firstOf_rel z2 (y.toNat * i.size) hpos
        obtain ⟨ρ', r1, r2, r3⟩ := new_rel H hs (all_one (firstOf_one hpos q5)) (cs := firstOf (y.toNat * i.size) z.cells) (by simpa using hF) #[]
        simp only [Array.append_empty] at r2 r3
        have wx : IntKind.i64.wrap x = x := by simp [IntKind.wrap, IntKind.bits, IntKind.signed]; omega
        have wy : IntKind.i64.wrap y = y := by simp [IntKind.wrap, IntKind.bits, IntKind.signed]; omega
        have hrun : (Instr.makeSlice t (.int k1 x) (.int k2 y)).run P w = .ok (.slice (some ⟨w.heap.size, 0, none⟩) x.toNat y.toNat) (w.alloc (.cells (firstOf (y.toNat * i.size) z.cells) e)) := by
          have c1 : ¬ (281474976710656 < (i.bytes : Int) * y) := by omega
          have c2 : ¬ (y < 0) := by omega
          have c3 : ¬ (x < 0) := by omega
          have c4 : ¬ (y < x) := by omega
          have hask : ∀ b, (askRoom b).run P w = .ok () w := fun b => by unfold askRoom; split <;> simp [mark, Sem.run]
          by_cases h0 : y.toNat * i.size = 0
          · simp [Instr.makeSlice, run_underlying hd, asInt, asIntOf, typeInfo, hi, wx, wy, c1, c2, c3, c4, sizeOf, h0, newRow, firstOf, hask]
            simp only [Array.range_zero', Array.map_empty]
          · simp [Instr.makeSlice, run_underlying hd, asInt, asIntOf, typeInfo, hi, wx, wy, c1, c2, c3, c4, sizeOf, h0, newRow, firstOf, hask, z1]
        refine ⟨_, _, ρ', hrun, r1, r2, VR.slice ⟨rfl, by omega, .inr rfl, .inl ⟨rfl, _, r3, by simp, ?_⟩⟩⟩
        simp [firstOf_size]
      · cases hv
    · cases hv
  · cases hv

/-- All of them. -/
theorem aeff_sound (H : HRel P w0 ρ h w) (T : TR ρ n tm a) {o : Oper} (hok : ∀ x, x ∈ o.op.operands → oprOk P n x = true) {v : Value} {h' : Heap} (hv : aeff P tm h o.op = some (v, h')) :
    ∃ v' w' ρ', ((execOp a.eval o).run P w = .ok (.value v') w' ∨ (v' = undef ∧ (execOp a.eval o).run P w = .ok .skip w')) ∧ RenLe ρ ρ' ∧ HRel P w0 ρ' h' w' ∧ VR ρ' v v' := by
  obtain ⟨dst, op, ty, pos, aft, g⟩ := o
  simp only at hok hv
  unfold aeff at hv
  split at hv
  · rename_i e
    split at hv
    · rename_i z s hz hs
      split at hv
      · rename_i hone
        cases hv
        obtain ⟨z1, z2, _⟩ := azero_rel (w := w) (ρ := ρ) hz
        obtain ⟨ρ', r1, r2, r3⟩ := new_rel H hs (all_one hone) (cs := z.cells) (by simpa using z2) #[]
        simp only [Array.append_empty] at r2 r3
        exact ⟨_, _, ρ', .inl (by simp [execOp, Instr.alloc, z1, newVar, newRow]), r1, r2, VR.ptr ⟨rfl, _, r3, rfl⟩⟩
      · cases hv
    · cases hv
  · rename_i e x
    split at hv
    · rename_i s hs
      split at hv
      · rename_i hone
        cases hv
        have hc := (ev_rel H T (hok x (by simp [Op.operands]))).cells
        obtain ⟨ρ', r1, r2, r3⟩ := new_rel H hs (all_one hone) (cs := (a.eval x).cells) (by simpa using hc) #[]
        simp only [Array.append_empty] at r2 r3
        exact ⟨_, _, ρ', .inl (by simp [execOp, Instr.box, newVar, newRow]), r1, r2, VR.ptr ⟨rfl, _, r3, rfl⟩⟩
      · cases hv
    · cases hv
  · rename_i t len parts
    obtain ⟨v', w', ρ', h1, h2, h3, h4⟩ := buildSlice_rel H (ps := parts.map fun (i, x) => (i, ev tm x)) (ps' := parts.map fun (i, x) => (i, a.eval x)) (by simp) (fun i p q h1 h2 => by
      simp only [Array.getElem?_map, Option.map_eq_some_iff] at h1 h2
      obtain ⟨x, hx, rfl⟩ := h1
      obtain ⟨y, hy, rfl⟩ := h2
      rw [hx] at hy; cases hy
      refine ⟨rfl, ev_rel H T (hok x.2 ?_)⟩
      have hm := Array.mem_of_getElem? hx
      simp only [Op.operands, List.mem_toArray, List.mem_map]
      exact ⟨x, by simpa using hm, rfl⟩) hv
    exact ⟨v', w', ρ', .inl (by simp [execOp, h1]), h2, h3, h4⟩
  · rename_i t l c
    obtain ⟨v', w', ρ', h1, h2, h3, h4⟩ := makeSlice_rel H (ev_rel H T (hok l (by simp [Op.operands]))) (ev_rel H T (hok c (by simp [Op.operands]))) hv
    exact ⟨v', w', ρ', .inl (by simp [execOp, h1]), h2, h3, h4⟩
  · rename_i t p x
    split at hv
    · rename_i h2 hs
      cases hv
      obtain ⟨w', s1, s2⟩ := store_rel H (ev_rel H T (hok p (by simp [Op.operands]))) (ev_rel H T (hok x (by simp [Op.operands]))) hs
      exact ⟨undef, w', ρ, .inr ⟨rfl, by simp [execOp, s1]⟩, RenLe.refl _, s2, VR.undef⟩
    · cases hv
  · rename_i args ts
    split at hv
    · rename_i s x t t2 ha hts
      have ea : args = #[s, x] := by apply Array.ext'; simpa using ha
      have et : ts = #[t, t2] := by apply Array.ext'; simpa using hts
      subst ea; subst et
      obtain ⟨v', w', ρ', h1, h2, h3, h4⟩ := append_rel (ty := ty) H (ev_rel H T (hok s (by simp [Op.operands, Call.operands]))) (ev_rel H T (hok x (by simp [Op.operands, Call.operands]))) hv
      exact ⟨v', w', ρ', .inl (by simp [execOp, resolve, invoke, builtin, h1]), h2, h3, h4⟩
    · cases hv
  · rename_i args ts
    split at hv
    · rename_i x t ha hts
      have ea : args = #[x] := by apply Array.ext'; simpa using ha
      have et : ts = #[t] := by apply Array.ext'; simpa using hts
      subst ea; subst et
      obtain ⟨rfl, w', h1, h2⟩ := clear_rel (ts := #[t]) (ty := ty) H rfl (ev_rel H T (hok x (by simp [Op.operands, Call.operands]))) hv
      exact ⟨undef, w', ρ, .inl (by simp [execOp, resolve, invoke, builtin, h1]; rfl), RenLe.refl _, h2, VR.undef⟩
    · cases hv
  · rename_i args ts
    split at hv
    · rename_i d x t t2 ha hts
      have ea : args = #[d, x] := by apply Array.ext'; simpa using ha
      have et : ts = #[t, t2] := by apply Array.ext'; simpa using hts
      subst ea; subst et
      obtain ⟨w', h1, h2, h3⟩ := copy_rel (ts := #[t, t2]) (ty := ty) H rfl (ev_rel H T (hok d (by simp [Op.operands, Call.operands]))) (ev_rel H T (hok x (by simp [Op.operands, Call.operands]))) hv
      exact ⟨_, w', ρ, .inl (by simp [execOp, resolve, invoke, builtin, h1]), RenLe.refl _, h2, h3⟩
    · cases hv
  · rename_i args ts
    split at hv
    · rename_i m k t t2 ha hts
      have ea : args = #[m, k] := by apply Array.ext'; simpa using ha
      have et : ts = #[t, t2] := by apply Array.ext'; simpa using hts
      subst ea; subst et
      obtain ⟨rfl, w', h1, h2⟩ := deleteM_rel (ts := #[t, t2]) (ty := ty) H rfl (ev_rel H T (hok m (by simp [Op.operands, Call.operands]))) (ev_rel H T (hok k (by simp [Op.operands, Call.operands]))) hv
      exact ⟨undef, w', ρ, .inl (by simp [execOp, resolve, invoke, builtin, h1]; rfl), RenLe.refl _, h2, VR.undef⟩
    · cases hv
  · rename_i t
    obtain ⟨v', w', ρ', h1, h2, h3, h4⟩ := makeMapM_rel H hv
    exact ⟨v', w', ρ', .inl (by simp [execOp, h1]), h2, h3, h4⟩
  · rename_i t m k ok
    obtain ⟨rfl, v', h1, h2⟩ := lookupM_rel H (ev_rel H T (hok m (by simp [Op.operands]))) (ev_rel H T (hok k (by simp [Op.operands]))) hv
    exact ⟨v', w, ρ, .inl (by simp [execOp, h1]), RenLe.refl _, H, h2⟩
  · rename_i t m k x
    obtain ⟨rfl, w', h1, h2⟩ := mapUpdateM_rel H (ev_rel H T (hok m (by simp [Op.operands]))) (ev_rel H T (hok k (by simp [Op.operands]))) (ev_rel H T (hok x (by simp [Op.operands]))) hv
    exact ⟨undef, w', ρ, .inr ⟨rfl, by simp [execOp, h1]⟩, RenLe.refl _, h2, VR.undef⟩
  · rename_i args ts
    split at hv
    · rename_i x t ha hts
      have ea : args = #[x] := by apply Array.ext'; simpa using ha
      have et : ts = #[t] := by apply Array.ext'; simpa using hts
      subst ea; subst et
      obtain ⟨rfl, h1, h2⟩ := lenMap_rel (ts := #[t]) (ty := ty) H rfl (ev_rel H T (hok x (by simp [Op.operands, Call.operands]))) hv
      exact ⟨_, w, ρ, .inl (by simp [execOp, resolve, invoke, builtin, h1]), RenLe.refl _, H, h2⟩
    · cases hv
  · rename_i s t x
    obtain ⟨v', w', ρ', h1, h2, h3, h4⟩ := convE_rel H (ev_rel H T (hok x (by simp [Op.operands]))) hv
    exact ⟨v', w', ρ', .inl (by simp [execOp, h1]), h2, h3, h4⟩
  · cases hv
end
end Go.Proofs.Ytgfccaaalkkdlaa.Am
