/- The frame Am, fifth text: conversions, values that are built, the built-in functions that only tell; all operations that change no memory as one function (aop), and that a world's run agrees with it. Nothing of a program stands here. -/
import Derived.Test.YtgfccaaalkkdlaaAmOps2
import Derived.Laws.BytesArg
set_option linter.unusedVariables false
set_option linter.unusedSimpArgs false
namespace Go.Proofs.Ytgfccaaalkkdlaa.Am
open Go Go.RowKit

def anums : List Value → Option (List Int)
  | [] => some []
  | .int .u8 x :: r => (match anums r with | none => none | some l => some (x :: l))
  | _ => none
def isU8 : Option TypeDesc → Bool
  | some (.int .u8) => true
  | _ => false
theorem isU8_eq {d : Option TypeDesc} (h : isU8 d = true) : d = some (.int .u8) := by
  unfold isU8 at h; split at h
  · rfl
  · cases h
def aconv (P : Program) (h : Heap) (s d : TypeId) (x : Value) : Option Value :=
  match P.underlying s, P.underlying d, x with
  | some _, some (.int k), .int _ n => some (.int k (k.wrap n))
  | some _, some .string, .string t => some (.string t)
  | some _, some .string, .int _ n => some (.string (Utf8.encode n))
  | some (.slice e), some .string, .slice none n _ => if isU8 (P.underlying e) = true ∧ n = 0 then some (.string ByteArray.empty) else none
  | some (.slice e), some .string, .slice (some a) n _ =>
    (match h.get a.block with
      | none => none
      | some k =>
        if isU8 (P.underlying e) = true ∧ k.live = true ∧ a.off + n ≤ k.cells.length then
          (match anums ((k.cells.drop a.off).take n) with
            | none => none
            | some l => some (.string (strOfNums l)))
        else none)
  | _, _, _ => none
/-- A zero value: it leads nowhere. -/
def azero (P : Program) (t : TypeId) : Option Value :=
  match P.info? t with
  | none => none
  | some i => match i.zero with
    | none => none
    | some z => if z.cells.all constOk = true then some z else none
def aplaces (P : Program) : List Field → Option (List (Nat × Nat))
  | [] => some []
  | f :: fs => match asz P f.type, aplaces P fs with
    | some s, some l => some ((f.offset, s) :: l)
    | _, _ => none
def abuild (P : Program) (t : TypeId) (parts : Array (Nat × Value)) : Option Value :=
  match azero P t, P.underlying t with
  | some z, some (.struct fs) =>
    (match aplaces P fs.toList with
      | none => none
      | some pl => match Instr.fill (pl[·]?) z.cells parts.toList with
        | none => none
        | some cs => some (.agg cs))
  | some z, some (.array _ e) =>
    (match asz P e with
      | none => none
      | some s => match Instr.fill (fun i => some (i * s, s)) z.cells parts.toList with
        | none => none
        | some cs => some (.agg cs))
  | _, _ => none
def amm (f : Int → Int → Int) : List Value → Option Value
  | .int k x :: rest => (rest.foldlM (fun (a : Int) (v : Value) => match v with | .int _ y => some (f a y) | _ => none) x).map (Value.int k)
  | _ => none
def abuiltin (P : Program) (b : Builtin) (ts : Array TypeId) (args : Array Value) : Option Value :=
  match b with
  | .len => (match ts[0]?, args[0]? with
    | some t, some x => (match P.underlying t, x with
      | some .string, .string s => some (.int .i64 s.size)
      | some (.slice _), .slice _ n _ => some (.int .i64 n)
      | _, _ => none)
    | _, _ => none)
  | .cap => (match ts[0]?, args[0]? with
    | some t, some x => (match P.underlying t, x with
      | some (.slice _), .slice _ _ (c + 1) => some (.int .i64 c)
      | _, _ => none)
    | _, _ => none)
  | .min => amm (fun x y => if y < x then y else x) args.toList
  | .max => amm (fun x y => if x < y then y else x) args.toList
  | _ => none

/-- All operations that change no memory and call nothing. -/
def aop (P : Program) (tm : Tm) (h : Heap) : Op → Option Value
  | .move x => some (ev tm x)
  | .assign x => some (ev tm x)
  | .pick c a b => (match ev tm c with | .bool t => some (if t = true then ev tm a else ev tm b) | _ => none)
  | .load t a => (match ev tm a with | .pointer (some x) => aload P h t x | _ => none)
  | .nilCheck x => (match ev tm x with | .pointer (some a) => some (.pointer (some a)) | _ => none)
  | .binOp op t x y _ => orV (abin P op t (ev tm x) (ev tm y)) (anilC P op t x y (ev tm x) (ev tm y))
  | .unOp op _ x => aun op (ev tm x)
  | .convert s d x => aconv P h s d (ev tm x)
  | .makeInterface t x => if P.concrete t = true then some (.iface t (ev tm x)) else none
  | .makeFunc fn fi ca => if plainFn fn = true then some (.func fn (fi.map (ev tm)) (ca.map (ev tm))) else none
  | .slice t x lo hi mx => aslice P h t (ev tm x) (lo.map (ev tm)) (hi.map (ev tm)) (mx.map (ev tm))
  | .fieldAddr t x f => afieldAddr P t (ev tm x) f
  | .field t x f => afield P t (ev tm x) f
  | .indexAddr t x i => aindexAddr P t (ev tm x) (ev tm i)
  | .index t x i => aindex P t (ev tm x) (ev tm i)
  | .extract x i => (match ev tm x with | .tuple vs => vs[i]? | _ => none)
  | .build t parts => abuild P t (parts.map fun (i, x) => (i, ev tm x))
  | .call { callee := .builtin b, args := args, argTypes := ts } => abuiltin P b ts (args.map (ev tm))
  | _ => none

section
variable {P : Program} {w0 w : World} {ρ : Ren} {h : Heap}
theorem anums_get {l : List Value} {r : List Int} (hr : anums l = some r) : r.length = l.length ∧ ∀ i, i < l.length → l[i]? = some (.int .u8 (r.getD i 0)) := by
  induction l generalizing r with
  | nil => cases hr; exact ⟨rfl, fun i hi => by simp at hi⟩
  | cons v l ih =>
    unfold anums at hr
    split at hr
    · rename_i e; cases e
    · rename_i x r' e
      cases e
      split at hr
      · cases hr
      · rename_i q hq
        cases hr
        obtain ⟨h1, h2⟩ := ih hq
        refine ⟨by simp [h1], fun i hi => ?_⟩
        cases i with
        | zero => simp
        | succ i => simpa using h2 i (by simpa using hi)
    · cases hr
theorem conv_rel (H : HRel P w0 ρ h w) {s d : TypeId} {x x' : Value} (hx : VR ρ x x') {v : Value} (hv : aconv P h s d x = some v) : ∃ v', (convert s d x').run P w = .ok v' w ∧ VR ρ v v' := by
  unfold aconv at hv
  split at hv
  · rename_i ds k q n hs hd
    cases hv
    rw [hx.int_inv]
    refine ⟨_, ?_, VR.int _ _⟩
    simp only [convert, Sem.run_bind, run_underlying hs, run_underlying hd, Result.andThen_ok]
    cases ds <;> simp [Conv.intToInt]
  · rename_i ds t hs hd
    cases hv
    rw [hx.string_inv]
    refine ⟨_, ?_, VR.string _⟩
    simp only [convert, Sem.run_bind, run_underlying hs, run_underlying hd, Result.andThen_ok]
    cases ds <;> simp
  · rename_i ds q n hs hd
    cases hv
    rw [hx.int_inv]
    refine ⟨_, ?_, VR.string _⟩
    simp only [convert, Sem.run_bind, run_underlying hs, run_underlying hd, Result.andThen_ok]
    cases ds <;> simp [Conv.intToString]
  · rename_i e n c hs hd
    split at hv
    · rename_i he
      cases hv
      obtain ⟨a', c', rfl, hS⟩ := hx.slice_inv
      cases a' with
      | some _ => exact hS.2.2.2.elim
      | none => exact ⟨_, run_convert_bytes_nil w s e hs (isU8_eq he.1) _ _ d hd, VR.string _⟩
    · cases hv
  · rename_i e a n c hs hd
    split at hv
    · cases hv
    rename_i k hk
    split at hv
    · rename_i he
      split at hv
      · cases hv
      rename_i l hl
      cases hv
      obtain ⟨a', c', rfl, hn, hnc, _, hS⟩ := hx.slice_inv
      obtain ⟨e1, e2⟩ := anums_get hl
      have hlen : ((k.cells.drop a.off).take n).length = n := by simp; omega
      cases a' with
      | none => exact hS.elim
      | some x' =>
        rcases hS with ⟨hsp, L, hL, rfl, _⟩ | h0
        · have B := H.br hk hL
          refine ⟨_, run_convert_bytes_arg w s e hs (isU8_eq he.1) L.blk (L.off + a.off) n c' l (by omega) (fun i hi => ?_) d hd, VR.string _⟩
          have := e2 i (by omega)
          rw [part_get hi] at this
          obtain ⟨_, v', h2, h3⟩ := B.reads he.2.1 _ _ this
          rw [h3.int_inv] at h2
          rw [Nat.add_assoc]; exact h2
        · have hn0 : n = 0 := by omega
          subst hn0
          have hl0 : l = [] := List.eq_nil_of_length_eq_zero (by omega)
          subst hl0
          exact ⟨_, by rw [run_convert_bytes_string w s d e _ 0 c' hs (isU8_eq he.1) hd]; simp [Conv.bytesToString, loadCells, loadCellsFrom, strOfNums, ByteArray.empty, ByteArray.emptyWithCapacity]; rfl, VR.string _⟩
    · cases hv
  · cases hv
theorem azero_rel {t : TypeId} {z : Value} (hz : azero P t = some z) : (zeroValue t).run P w = .ok z w ∧ AR ρ z.cells z.cells ∧ ∃ i, P.info? t = some i ∧ i.zero = some z := by
  unfold azero at hz
  split at hz
  · cases hz
  rename_i i hi
  split at hz
  · cases hz
  rename_i z' hz'
  split at hz
  · rename_i hc
    cases hz
    refine ⟨by simp [zeroValue, typeInfo, hi, hz'], ⟨rfl, fun j x y hx hy => ?_⟩, i, hi, hz'⟩
    rw [hx] at hy; cases hy
    exact constOk_VR ((Array.all_eq_true'.1 hc) x (Array.mem_of_getElem? hx))
  · cases hz
theorem foldl_cells (f : Nat → Nat) : ∀ (l l' : List Value) (k : Nat) (cs cs' : Array Value), l.length = l'.length → (∀ (i : Nat) (x y : Value), l[i]? = some x → l'[i]? = some y → VR ρ x y) → AR ρ cs cs' →
    AR ρ ((l.zipIdx k).foldl (fun cs (c, j) => cs.setIfInBounds (f j) c) cs) ((l'.zipIdx k).foldl (fun cs (c, j) => cs.setIfInBounds (f j) c) cs') := by
  intro l
  induction l with
  | nil => intro l' k cs cs' hl _ hc; cases l' with
    | nil => exact hc
    | cons _ _ => simp at hl
  | cons v l ih =>
    intro l' k cs cs' hl hv hc
    cases l' with
    | nil => simp at hl
    | cons v' l' =>
      simp only [List.zipIdx_cons, List.foldl_cons]
      refine ih l' (k + 1) _ _ (by simpa using hl) (fun i x y hx hy => hv (i + 1) x y (by simpa using hx) (by simpa using hy)) ⟨by simp [hc.1], fun i x y hx hy => ?_⟩
      rw [Array.getElem?_setIfInBounds] at hx hy
      rw [← hc.1] at hy
      by_cases e : f k = i
      · rw [if_pos e] at hx hy
        split at hx
        · rename_i hlt
          rw [if_pos hlt] at hy
          cases hx; cases hy
          exact hv 0 _ _ rfl rfl
        · cases hx
      · rw [if_neg e] at hx hy
        exact hc.2 i x y hx hy
theorem fill_rel (place : Nat → Option (Nat × Nat)) : ∀ (ps ps' : List (Nat × Value)) (cs cs' : Array Value), ps.length = ps'.length →
    (∀ (i : Nat) (p q : Nat × Value), ps[i]? = some p → ps'[i]? = some q → p.1 = q.1 ∧ VR ρ p.2 q.2) → AR ρ cs cs' → ∀ r, Instr.fill place cs ps = some r → ∃ r', Instr.fill place cs' ps' = some r' ∧ AR ρ r r' := by
  intro ps
  induction ps with
  | nil => intro ps' cs cs' hl _ hc r hr; cases ps' with
    | nil => cases hr; exact ⟨cs', rfl, hc⟩
    | cons _ _ => simp at hl
  | cons p ps ih =>
    intro ps' cs cs' hl hv hc r hr
    cases ps' with
    | nil => simp at hl
    | cons q ps' =>
      obtain ⟨i, v⟩ := p
      obtain ⟨j, v'⟩ := q
      obtain ⟨h1, h2⟩ := hv 0 _ _ rfl rfl
      simp only at h1 h2
      subst h1
      unfold Instr.fill at hr ⊢
      cases hp : place i with
      | none => rw [hp] at hr; cases hr
      | some os =>
        obtain ⟨off, size⟩ := os
        rw [hp] at hr
        simp only at hr ⊢
        have hcell := h2.cells
        rw [← hcell.1, ← hc.1]
        split at hr
        · cases hr
        · rename_i hcond
          rw [if_neg hcond]
          refine ih ps' _ _ (by simpa using hl) (fun i x y hx hy => hv (i + 1) x y (by simpa using hx) (by simpa using hy)) ?_ r hr
          rw [← Array.foldl_toList, ← Array.foldl_toList, Array.toList_zipIdx, Array.toList_zipIdx]
          exact foldl_cells (fun j => off + j) _ _ _ _ _ (by simpa using hcell.1) (fun i x y hx hy => hcell.2 i x y (by simpa using hx) (by simpa using hy)) hc
theorem places_rel : ∀ (fs : List Field) (pl : List (Nat × Nat)), aplaces P fs = some pl → (fs.mapM (m := Sem) fun f => do pure (f.offset, ← sizeOf f.type)).run P w = .ok pl w := by
  intro fs
  induction fs with
  | nil => intro pl hp; cases hp; simp
  | cons f fs ih =>
    intro pl hp
    unfold aplaces at hp
    split at hp
    · rename_i s l hs hl
      cases hp
      have h1 := run_sizeOf hs w
      have h2 := ih l hl
      simp only [List.mapM_cons, Sem.run_bind, h1, h2, Result.andThen_ok, Sem.run_pure]
    · cases hp
theorem build_rel {t : TypeId} {ps ps' : Array (Nat × Value)} (hl : ps.size = ps'.size) (hp : ∀ (i : Nat) (p q : Nat × Value), ps[i]? = some p → ps'[i]? = some q → p.1 = q.1 ∧ VR ρ p.2 q.2)
    {v : Value} (hv : abuild P t ps = some v) : ∃ v', (Instr.build t ps').run P w = .ok v' w ∧ VR ρ v v' := by
  unfold abuild at hv
  split at hv
  · rename_i z fs hz hd
    split at hv
    · cases hv
    rename_i pl hpl
    split at hv
    · cases hv
    rename_i cs hcs
    cases hv
    obtain ⟨z1, z2, _⟩ := azero_rel (w := w) (ρ := ρ) hz
    obtain ⟨r', hr1, hr2⟩ := fill_rel (ρ := ρ) (pl[·]?) ps.toList ps'.toList _ _ (by simpa using hl) (fun i p q h1 h2 => hp i p q (by simpa using h1) (by simpa using h2)) z2 cs hcs
    have hm : (fs.mapM (m := Sem) fun f => do pure (f.offset, ← sizeOf f.type)).run P w = .ok pl.toArray w := by
      rw [Array.mapM_eq_mapM_toList]
      simp only [Sem.run_map, places_rel (w := w) fs.toList pl hpl, Result.andThen_ok]
    refine ⟨.agg r', ?_, VR.agg hr2⟩
    have hr1' : Instr.fill (pl.toArray[·]?) z.cells ps'.toList = some r' := by
      rw [← hr1]; congr 1; funext i; simp
    simp only [Instr.build, Sem.run_bind, z1, Result.andThen_ok, run_underlying hd, hm, hr1', Sem.run_pure]
  · rename_i z n e hz hd
    split at hv
    · cases hv
    rename_i s hs
    split at hv
    · cases hv
    rename_i cs hcs
    cases hv
    obtain ⟨z1, z2, _⟩ := azero_rel (w := w) (ρ := ρ) hz
    obtain ⟨r', hr1, hr2⟩ := fill_rel (ρ := ρ) (fun i => some (i * s, s)) ps.toList ps'.toList _ _ (by simpa using hl) (fun i p q h1 h2 => hp i p q (by simpa using h1) (by simpa using h2)) z2 cs hcs
    refine ⟨.agg r', ?_, VR.agg hr2⟩
    simp only [Instr.build, Sem.run_bind, z1, Result.andThen_ok, run_underlying hd, run_sizeOf hs, hr1, Sem.run_pure]
  · cases hv
theorem mm_rel (f : Int → Int → Int) (g : Value → Value → Sem Value) (hg : ∀ k x k' y, g (.int k x) (.int k' y) = pure (.int k (f x y))) : ∀ (l l' : List Value), l.length = l'.length →
    (∀ (i : Nat) (x y : Value), l[i]? = some x → l'[i]? = some y → VR ρ x y) → ∀ (k : IntKind) (x r : Int), l.foldlM (fun (a : Int) (v : Value) => match v with | .int _ y => some (f a y) | _ => none) x = some r →
    (l'.foldlM g (.int k x)).run P w = .ok (.int k r) w := by
  intro l
  induction l with
  | nil => intro l' hl _ k x r hr; cases l' with
    | nil => cases hr; simp
    | cons _ _ => simp at hl
  | cons v l ih =>
    intro l' hl hv k x r hr
    cases l' with
    | nil => simp at hl
    | cons v' l' =>
      simp only [List.foldlM_cons] at hr ⊢
      cases v with
      | int q y =>
        have h0 := (hv 0 _ _ rfl rfl).int_inv
        subst h0
        simp only [Option.bind_eq_bind, Option.bind_some] at hr
        simp only [hg, Sem.run_bind, Sem.run_pure, Result.andThen_ok]
        exact ih l' (by simpa using hl) (fun i x y hx hy => hv (i + 1) x y (by simpa using hx) (by simpa using hy)) k _ r hr
      | _ => cases hr
end
end Go.Proofs.Ytgfccaaalkkdlaa.Am
