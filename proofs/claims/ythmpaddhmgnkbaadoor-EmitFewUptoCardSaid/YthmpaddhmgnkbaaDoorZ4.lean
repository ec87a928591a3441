/- The texts of this seat, one behind another (part 4 of 25): the frame (an abstract machine), the contracts of functions, the laws. -/
import Derived.Test.YthmpaddhmgnkbaaDoorZ3
import Derived.Laws.BytesArg
section
/- The frame Am, fifth text: conversions, values that are built, the built-in functions that only tell; all operations that change no memory as one function (aop), and that a world's run agrees with it. Nothing of a program stands here. -/
set_option linter.unusedVariables false
set_option linter.unusedSimpArgs false
namespace Go.Proofs.YthmpaddhmgnkbaaDoor.Am
open Go Go.RowKit

def anums : List Value → Option (List Int)
  | [] => some []
  | .int .u8 x :: r => (match anums r with | none => none | some l => some (x :: l))
  | _ => none
def isU8 : Option TypeDesc → Bool
  | some (.int .u8) => true
  | _ => false
theorem isU8_eq {d : Option TypeDesc} (h : isU8 d = true) : d = some (.int .u8) := by
  unfold isU8 at h; split at h
  · rfl
  · cases h
def aconv (P : Program) (h : Heap) (s d : TypeId) (x : Value) : Option Value :=
  match P.underlying s, P.underlying d, x with
  | some _, some (.int k), .int _ n => some (.int k (k.wrap n))
  | some _, some .string, .string t => some (.string t)
  | some _, some .string, .int _ n => some (.string (Utf8.encode n))
  | some (.slice e), some .string, .slice none n _ => if isU8 (P.underlying e) = true ∧ n = 0 then some (.string ByteArray.empty) else none
  | some (.slice e), some .string, .slice (some a) n _ =>
    (match h.get a.block with
      | none => none
      | some k =>
        if isU8 (P.underlying e) = true ∧ k.live = true ∧ a.off + n ≤ k.cells.length then
          (match anums ((k.cells.drop a.off).take n) with
            | none => none
            | some l => some (.string (strOfNums l)))
        else none)
  | _, _, _ => none
/-- A zero value: it leads nowhere. -/
def azero (P : Program) (t : TypeId) : Option Value :=
  match P.info? t with
  | none => none
  | some i => match i.zero with
    | none => none
    | some z => if z.cells.all constOk = true then some z else none
def aplaces (P : Program) : List Field → Option (List (Nat × Nat))
  | [] => some []
  | f :: fs => match asz P f.type, aplaces P fs with
    | some s, some l => some ((f.offset, s) :: l)
    | _, _ => none
def abuild (P : Program) (t : TypeId) (parts : Array (Nat × Value)) : Option Value :=
  match azero P t, P.underlying t with
  | some z, some (.struct fs) =>
    (match aplaces P fs.toList with
      | none => none
      | some pl => match Instr.fill (pl[·]?) z.cells parts.toList with
        | none => none
        | some cs => some (.agg cs))
  | some z, some (.array _ e) =>
    (match asz P e with
      | none => none
      | some s => match Instr.fill (fun i => some (i * s, s)) z.cells parts.toList with
        | none => none
        | some cs => some (.agg cs))
  | _, _ => none
def amm (f : Int → Int → Int) : List Value → Option Value
  | .int k x :: rest => (rest.foldlM (fun (a : Int) (v : Value) => match v with | .int _ y => some (f a y) | _ => none) x).map (Value.int k)
  | _ => none
def abuiltin (P : Program) (b : Builtin) (ts : Array TypeId) (args : Array Value) : Option Value :=
  match b with
  | .len => (match ts[0]?, args[0]? with
    | some t, some x => (match P.underlying t, x with
      | some .string, .string s => some (.int .i64 s.size)
      | some (.slice _), .slice _ n _ => some (.int .i64 n)
      | _, _ => none)
    | _, _ => none)
  | .cap => (match ts[0]?, args[0]? with
    | some t, some x => (match P.underlying t, x with
      | some (.slice _), .slice _ _ (c + 1) => some (.int .i64 c)
      | _, _ => none)
    | _, _ => none)
  | .min => amm (fun x y => if y < x then y else x) args.toList
  | .max => amm (fun x y => if x < y then y else x) args.toList
  | _ => none

/-- All operations that change no memory and call nothing. -/
def aop (P : Program) (tm : Tm) (h : Heap) : Op → Option Value
  | .move x => some (ev tm x)
  | .assign x => some (ev tm x)
  | .pick c a b => (match ev tm c with | .bool t => some (if t = true then ev tm a else ev tm b) | _ => none)
  | .load t a => (match ev tm a with | .pointer (some x) => aload P h t x | _ => none)
  | .nilCheck x => (match ev tm x with | .pointer (some a) => some (.pointer (some a)) | _ => none)
  | .binOp op t x y _ => orV (abin P op t (ev tm x) (ev tm y)) (anilC P op t x y (ev tm x) (ev tm y))
  | .unOp op _ x => aun op (ev tm x)
  | .convert s d x => aconv P h s d (ev tm x)
  | .makeInterface t x => if P.concrete t = true then some (.iface t (ev tm x)) else none
  | .makeFunc fn fi ca => if plainFn fn = true then some (.func fn (fi.map (ev tm)) (ca.map (ev tm))) else none
  | .slice t x lo hi mx => aslice P h t (ev tm x) (lo.map (ev tm)) (hi.map (ev tm)) (mx.map (ev tm))
  | .fieldAddr t x f => afieldAddr P t (ev tm x) f
  | .field t x f => afield P t (ev tm x) f
  | .indexAddr t x i => aindexAddr P t (ev tm x) (ev tm i)
  | .index t x i => aindex P t (ev tm x) (ev tm i)
  | .extract x i => (match ev tm x with | .tuple vs => vs[i]? | _ => none)
  | .build t parts => abuild P t (parts.map fun (i, x) => (i, ev tm x))
  | .call { callee := .builtin b, args := args, argTypes := ts } => abuiltin P b ts (args.map (ev tm))
  | _ => none

section
variable {P : Program} {w0 w : World} {ρ : Ren} {h : Heap}
theorem anums_get {l : List Value} {r : List Int} (hr : anums l = some r) : r.length = l.length ∧ ∀ i, i < l.length → l[i]? = some (.int .u8 (r.getD i 0)) := by
  induction l generalizing r with
  | nil => cases hr; exact ⟨rfl, fun i hi => by simp at hi⟩
  | cons v l ih =>
    unfold anums at hr
    split at hr
    · rename_i e; cases e
    · rename_i x r' e
      cases e
      split at hr
      · cases hr
      · rename_i q hq
        cases hr
        obtain ⟨h1, h2⟩ := ih hq
        refine ⟨by simp [h1], fun i hi => ?_⟩
        cases i with
        | zero => simp
        | succ i => simpa using h2 i (by simpa using hi)
    · cases hr
theorem conv_rel (H : HRel P w0 ρ h w) {s d : TypeId} {x x' : Value} (hx : VR ρ x x') {v : Value} (hv : aconv P h s d x = some v) : ∃ v', (convert s d x').run P w = .ok v' w ∧ VR ρ v v' := by
  unfold aconv at hv
  split at hv
  · rename_i ds k q n hs hd
    cases hv
    rw [hx.int_inv]
    refine ⟨_, ?_, VR.int _ _⟩
    simp only [convert, Sem.run_bind, run_underlying hs, run_underlying hd, Result.andThen_ok]
    cases ds <;> simp [Conv.intToInt]
  · rename_i ds t hs hd
    cases hv
    rw [hx.string_inv]
    refine ⟨_, ?_, VR.string _⟩
    simp only [convert, Sem.run_bind, run_underlying hs, run_underlying hd, Result.andThen_ok]
    cases ds <;> simp
  · rename_i ds q n hs hd
    cases hv
    rw [hx.int_inv]
    refine ⟨_, ?_, VR.string _⟩
    simp only [convert, Sem.run_bind, run_underlying hs, run_underlying hd, Result.andThen_ok]
    cases ds <;> simp [Conv.intToString]
  · rename_i e n c hs hd
    split at hv
    · rename_i he
      cases hv
      obtain ⟨a', c', rfl, hS⟩ := hx.slice_inv
      cases a' with
      | some _ => exact hS.2.2.2.elim
      | none => exact ⟨_, run_convert_bytes_nil w s e hs (isU8_eq he.1) _ _ d hd, VR.string _⟩
    · cases hv
  · rename_i e a n c hs hd
    split at hv
    · cases hv
    rename_i k hk
    split at hv
    · rename_i he
      split at hv
      · cases hv
      rename_i l hl
      cases hv
      obtain ⟨a', c', rfl, hn, hnc, _, hS⟩ := hx.slice_inv
      obtain ⟨e1, e2⟩ := anums_get hl
      have hlen : ((k.cells.drop a.off).take n).length = n := by simp; omega
      cases a' with
      | none => exact hS.elim
      | some x' =>
        rcases hS with ⟨hsp, L, hL, rfl, _⟩ | h0
        · have B := H.br hk hL
          refine ⟨_, run_convert_bytes_arg w s e hs (isU8_eq he.1) L.blk (L.off + a.off) n c' l (by omega) (fun i hi => ?_) d hd, VR.string _⟩
          have := e2 i (by omega)
          rw [part_get hi] at this
          obtain ⟨_, v', h2, h3⟩ := B.reads he.2.1 _ _ this
          rw [h3.int_inv] at h2
          rw [Nat.add_assoc]; exact h2
        · have hn0 : n = 0 := by omega
          subst hn0
          have hl0 : l = [] := List.eq_nil_of_length_eq_zero (by omega)
          subst hl0
          exact ⟨_, by rw [run_convert_bytes_string w s d e _ 0 c' hs (isU8_eq he.1) hd]; simp [Conv.bytesToString, loadCells, loadCellsFrom, strOfNums, ByteArray.empty, ByteArray.emptyWithCapacity]; rfl, VR.string _⟩
    · cases hv
  · cases hv
theorem azero_rel {t : TypeId} {z : Value} (hz : azero P t = some z) : (zeroValue t).run P w = .ok z w ∧ AR ρ z.cells z.cells ∧ ∃ i, P.info? t = some i ∧ i.zero = some z := by
  unfold azero at hz
  split at hz
  · cases hz
  rename_i i hi
  split at hz
  · cases hz
  rename_i z' hz'
  split at hz
  · rename_i hc
    cases hz
    refine ⟨by simp [zeroValue, typeInfo, hi, hz'], ⟨rfl, fun j x y hx hy => ?_⟩, i, hi, hz'⟩
    rw [hx] at hy; cases hy
    exact constOk_VR ((Array.all_eq_true'.1 hc) x (Array.mem_of_getElem? hx))
  · cases hz
theorem foldl_cells (f : Nat → Nat) : ∀ (l l' : List Value) (k : Nat) (cs cs' : Array Value), l.length = l'.length → (∀ (i : Nat) (x y : Value), l[i]? = some x → l'[i]? = some y → VR ρ x y) → AR ρ cs cs' →
    AR ρ ((l.zipIdx k).foldl (fun cs (c, j) => cs.setIfInBounds (f j) c) cs) ((l'.zipIdx k).foldl (fun cs (c, j) => cs.setIfInBounds (f j) c) cs') := by
  intro l
  induction l with
  | nil => intro l' k cs cs' hl _ hc; cases l' with
    | nil => exact hc
    | cons _ _ => simp at hl
  | cons v l ih =>
    intro l' k cs cs' hl hv hc
    cases l' with
    | nil => simp at hl
    | cons v' l' =>
      simp only [List.zipIdx_cons, List.foldl_cons]
      refine ih l' (k + 1) _ _ (by simpa using hl) (fun i x y hx hy => hv (i + 1) x y (by simpa using hx) (by simpa using hy)) ⟨by simp [hc.1], fun i x y hx hy => ?_⟩
      rw [Array.getElem?_setIfInBounds] at hx hy
      rw [← hc.1] at hy
      by_cases e : f k = i
      · rw [if_pos e] at hx hy
        split at hx
        · rename_i hlt
          rw [if_pos hlt] at hy
          cases hx; cases hy
          exact hv 0 _ _ rfl rfl
        · cases hx
      · rw [if_neg e] at hx hy
        exact hc.2 i x y hx hy
theorem fill_rel (place : Nat → Option (Nat × Nat)) : ∀ (ps ps' : List (Nat × Value)) (cs cs' : Array Value), ps.length = ps'.length →
    (∀ (i : Nat) (p q : Nat × Value), ps[i]? = some p → ps'[i]? = some q → p.1 = q.1 ∧ VR ρ p.2 q.2) → AR ρ cs cs' → ∀ r, Instr.fill place cs ps = some r → ∃ r', Instr.fill place cs' ps' = some r' ∧ AR ρ r r' := by
  intro ps
  induction ps with
  | nil => intro ps' cs cs' hl _ hc r hr; cases ps' with
    | nil => cases hr; exact ⟨cs', rfl, hc⟩
    | cons _ _ => simp at hl
  | cons p ps ih =>
    intro ps' cs cs' hl hv hc r hr
    cases ps' with
    | nil => simp at hl
    | cons q ps' =>
      obtain ⟨i, v⟩ := p
      obtain ⟨j, v'⟩ := q
      obtain ⟨h1, h2⟩ := hv 0 _ _ rfl rfl
      simp only at h1 h2
      subst h1
      unfold Instr.fill at hr ⊢
      cases hp : place i with
      | none => rw [hp] at hr; cases hr
      | some os =>
        obtain ⟨off, size⟩ := os
        rw [hp] at hr
        simp only at hr ⊢
        have hcell := h2.cells
        rw [← hcell.1, ← hc.1]
        split at hr
        · cases hr
        · rename_i hcond
          rw [if_neg hcond]
          refine ih ps' _ _ (by simpa using hl) (fun i x y hx hy => hv (i + 1) x y (by simpa using hx) (by simpa using hy)) ?_ r hr
          rw [← Array.foldl_toList, ← Array.foldl_toList, Array.toList_zipIdx, Array.toList_zipIdx]
          exact foldl_cells (fun j => off + j) _ _ _ _ _ (by simpa using hcell.1) (fun i x y hx hy => hcell.2 i x y (by simpa using hx) (by simpa using hy)) hc
theorem places_rel : ∀ (fs : List Field) (pl : List (Nat × Nat)), aplaces P fs = some pl → (fs.mapM (m := Sem) fun f => do pure (f.offset, ← sizeOf f.type)).run P w = .ok pl w := by
  intro fs
  induction fs with
  | nil => intro pl hp; cases hp; simp
  | cons f fs ih =>
    intro pl hp
    unfold aplaces at hp
    split at hp
    · rename_i s l hs hl
      cases hp
      have h1 := run_sizeOf hs w
      have h2 := ih l hl
      simp only [List.mapM_cons, Sem.run_bind, h1, h2, Result.andThen_ok, Sem.run_pure]
    · cases hp
theorem build_rel {t : TypeId} {ps ps' : Array (Nat × Value)} (hl : ps.size = ps'.size) (hp : ∀ (i : Nat) (p q : Nat × Value), ps[i]? = some p → ps'[i]? = some q → p.1 = q.1 ∧ VR ρ p.2 q.2)
    {v : Value} (hv : abuild P t ps = some v) : ∃ v', (Instr.build t ps').run P w = .ok v' w ∧ VR ρ v v' := by
  unfold abuild at hv
  split at hv
  · rename_i z fs hz hd
    split at hv
    · cases hv
    rename_i pl hpl
    split at hv
    · cases hv
    rename_i cs hcs
    cases hv
    obtain ⟨z1, z2, _⟩ := azero_rel (w := w) (ρ := ρ) hz
    obtain ⟨r', hr1, hr2⟩ := fill_rel (ρ := ρ) (pl[·]?) ps.toList ps'.toList _ _ (by simpa using hl) (fun i p q h1 h2 => hp i p q (by simpa using h1) (by simpa using h2)) z2 cs hcs
    have hm : (fs.mapM (m := Sem) fun f => do pure (f.offset, ← sizeOf f.type)).run P w = .ok pl.toArray w := by
      rw [Array.mapM_eq_mapM_toList]
      simp only [Sem.run_map, places_rel (w := w) fs.toList pl hpl, Result.andThen_ok]
    refine ⟨.agg r', ?_, VR.agg hr2⟩
    have hr1' : Instr.fill (pl.toArray[·]?) z.cells ps'.toList = some r' := by
      rw [← hr1]; congr 1; funext i; simp
    simp only [Instr.build, Sem.run_bind, z1, Result.andThen_ok, run_underlying hd, hm, hr1', Sem.run_pure]
  · rename_i z n e hz hd
    split at hv
    · cases hv
    rename_i s hs
    split at hv
    · cases hv
    rename_i cs hcs
    cases hv
    obtain ⟨z1, z2, _⟩ := azero_rel (w := w) (ρ := ρ) hz
    obtain ⟨r', hr1, hr2⟩ := fill_rel (ρ := ρ) (fun i => some (i * s, s)) ps.toList ps'.toList _ _ (by simpa using hl) (fun i p q h1 h2 => hp i p q (by simpa using h1) (by simpa using h2)) z2 cs hcs
    refine ⟨.agg r', ?_, VR.agg hr2⟩
    simp only [Instr.build, Sem.run_bind, z1, Result.andThen_ok, run_underlying hd, run_sizeOf hs, hr1, Sem.run_pure]
  · cases hv
theorem mm_rel (f : Int → Int → Int) (g : Value → Value → Sem Value) (hg : ∀ k x k' y, g (.int k x) (.int k' y) = pure (.int k (f x y))) : ∀ (l l' : List Value), l.length = l'.length →
    (∀ (i : Nat) (x y : Value), l[i]? = some x → l'[i]? = some y → VR ρ x y) → ∀ (k : IntKind) (x r : Int), l.foldlM (fun (a : Int) (v : Value) => match v with | .int _ y => some (f a y) | _ => none) x = some r →
    (l'.foldlM g (.int k x)).run P w = .ok (.int k r) w := by
  intro l
  induction l with
  | nil => intro l' hl _ k x r hr; cases l' with
    | nil => cases hr; simp
    | cons _ _ => simp at hl
  | cons v l ih =>
    intro l' hl hv k x r hr
    cases l' with
    | nil => simp at hl
    | cons v' l' =>
      simp only [List.foldlM_cons] at hr ⊢
      cases v with
      | int q y =>
        have h0 := (hv 0 _ _ rfl rfl).int_inv
        subst h0
        simp only [Option.bind_eq_bind, Option.bind_some] at hr
        simp only [hg, Sem.run_bind, Sem.run_pure, Result.andThen_ok]
        exact ih l' (by simpa using hl) (fun i x y hx hy => hv (i + 1) x y (by simpa using hx) (by simpa using hy)) k _ r hr
      | _ => cases hr
end
end Go.Proofs.YthmpaddhmgnkbaaDoor.Am
end
section
/- The frame Am, sixth text: one operation that changes no memory: a world's run agrees with what is told of it. Nothing of a program stands here. -/
set_option linter.unusedVariables false
set_option linter.unusedSimpArgs false
namespace Go.Proofs.YthmpaddhmgnkbaaDoor.Am
open Go Go.RowKit

section
variable {P : Program} {w0 w : World} {ρ : Ren} {h : Heap} {n : Nat} {tm : Tm} {a : Act}
theorem builtin_rel {b : Builtin} {ts : Array TypeId} (ty : TypeId) {args args' : Array Value} (ha : AR ρ args args') {v : Value} (hv : abuiltin P b ts args = some v) :
    ∃ v', (∀ cs, (builtin b ts ty cs args').run P w = .ok (.value v') w) ∧ VR ρ v v' := by
  unfold abuiltin at hv
  split at hv
  · split at hv
    · rename_i t x ht hx
      obtain ⟨x', hx', hr⟩ := ha.get hx
      split at hv
      · rename_i s hd
        cases hv
        rw [hr.string_inv] at hx'
        exact ⟨_, fun cs => by simp [builtin, Builtin.len_, ht, hx', run_underlying hd]; rfl, VR.int _ _⟩
      · rename_i e m c n' hd
        cases hv
        obtain ⟨a', c', rfl, _⟩ := hr.slice_inv
        exact ⟨_, fun cs => by simp [builtin, Builtin.len_, ht, hx', run_underlying hd]; rfl, VR.int _ _⟩
      · cases hv
    · cases hv
  · split at hv
    · rename_i t x ht hx
      obtain ⟨x', hx', hr⟩ := ha.get hx
      split at hv
      · rename_i e m c n' hd
        cases hv
        obtain ⟨a', c', rfl, _, _, hc, _⟩ := hr.slice_inv
        obtain rfl : c' = n' := by rcases hc with hc | hc <;> omega
        exact ⟨_, fun cs => by simp [builtin, Builtin.cap_, ht, hx', run_underlying hd]; rfl, VR.int _ _⟩
      · cases hv
    · cases hv
  · unfold amm at hv
    split at hv
    · rename_i k x rest hargs
      obtain ⟨r, hr, rfl⟩ := Option.map_eq_some_iff.1 hv
      have hl : args.toList.length = args'.toList.length := by simpa using ha.1
      cases hl' : args'.toList with
      | nil => rw [hargs, hl'] at hl; simp at hl
      | cons x' rest' =>
        have hp : ∀ (i : Nat) (p q : Value), (Value.int k x :: rest)[i]? = some p → (x' :: rest')[i]? = some q → VR ρ p q := fun i p q h1 h2 => ha.2 i p q (by rw [← Array.getElem?_toList, hargs]; exact h1) (by rw [← Array.getElem?_toList, hl']; exact h2)
        have h0 := (hp 0 _ _ rfl rfl).int_inv
        subst h0
        have := mm_rel (P := P) (w := w) (ρ := ρ) (fun x y => if y < x then y else x) Builtin.min2 (fun _ _ _ _ => rfl) rest rest' (by rw [hargs, hl'] at hl; simpa using hl) (fun i p q h1 h2 => hp (i + 1) p q (by simpa using h1) (by simpa using h2)) k x r hr
        exact ⟨_, fun cs => by simp [builtin, Builtin.min_, hl', this], VR.int _ _⟩
    · cases hv
  · unfold amm at hv
    split at hv
    · rename_i k x rest hargs
      obtain ⟨r, hr, rfl⟩ := Option.map_eq_some_iff.1 hv
      have hl : args.toList.length = args'.toList.length := by simpa using ha.1
      cases hl' : args'.toList with
      | nil => rw [hargs, hl'] at hl; simp at hl
      | cons x' rest' =>
        have hp : ∀ (i : Nat) (p q : Value), (Value.int k x :: rest)[i]? = some p → (x' :: rest')[i]? = some q → VR ρ p q := fun i p q h1 h2 => ha.2 i p q (by rw [← Array.getElem?_toList, hargs]; exact h1) (by rw [← Array.getElem?_toList, hl']; exact h2)
        have h0 := (hp 0 _ _ rfl rfl).int_inv
        subst h0
        have := mm_rel (P := P) (w := w) (ρ := ρ) (fun x y => if x < y then y else x) Builtin.max2 (fun _ _ _ _ => rfl) rest rest' (by rw [hargs, hl'] at hl; simpa using hl) (fun i p q h1 h2 => hp (i + 1) p q (by simpa using h1) (by simpa using h2)) k x r hr
        exact ⟨_, fun cs => by simp [builtin, Builtin.max_, hl', this], VR.int _ _⟩
    · cases hv
  · cases hv

theorem evs_rel (H : HRel P w0 ρ h w) (T : TR ρ n tm a) {xs : Array Operand} (hx : ∀ x, x ∈ xs → oprOk P n x = true) : AR ρ (xs.map (ev tm)) (xs.map a.eval) := AR.map fun x hm => ev_rel H T (hx x hm)
theorem evo_rel (H : HRel P w0 ρ h w) (T : TR ρ n tm a) {x : Option Operand} (hx : ∀ y, x = some y → oprOk P n y = true) : OR ρ (x.map (ev tm)) (x.map a.eval) := by
  cases x with
  | none => trivial
  | some y => exact ev_rel H T (hx y rfl)

theorem aop_sound (H : HRel P w0 ρ h w) (T : TR ρ n tm a) {o : Oper} (hok : ∀ x, x ∈ o.op.operands → oprOk P n x = true) {v : Value} (hv : aop P tm h o.op = some v) :
    ∃ v', (execOp a.eval o).run P w = .ok (.value v') w ∧ VR ρ v v' := by
  obtain ⟨dst, op, ty, pos, aft, g⟩ := o
  simp only at hok hv
  unfold aop at hv
  split at hv
  · rename_i x
    cases hv
    exact ⟨_, by simp only [execOp]; rfl, ev_rel H T (hok x (by simp [Op.operands]))⟩
  · rename_i x
    cases hv
    exact ⟨_, by simp only [execOp]; rfl, ev_rel H T (hok x (by simp [Op.operands]))⟩
  · rename_i c x y
    split at hv
    · rename_i t ht
      cases hv
      have hc := ev_rel H T (hok c (by simp [Op.operands]))
      rw [ht] at hc
      have hc' := hc.bool_inv
      have h1 := ev_rel H T (hok x (by simp [Op.operands]))
      have h2 := ev_rel H T (hok y (by simp [Op.operands]))
      cases t
      · exact ⟨_, by simp [execOp, hc', asBool], h2⟩
      · exact ⟨_, by simp [execOp, hc', asBool], h1⟩
    · cases hv
  · rename_i t x
    split at hv
    · rename_i ad hx
      have hr := ev_rel H T (hok x (by simp [Op.operands]))
      rw [hx] at hr
      obtain ⟨a', he, hp⟩ := hr.ptr_inv
      obtain ⟨v', h1, h2⟩ := load_rel H hp hv
      exact ⟨v', by simp [execOp, he, Instr.loadAt, Instr.sureAddr, h1], h2⟩
    · cases hv
  · rename_i x
    split at hv
    · rename_i ad hx
      cases hv
      have hr := ev_rel H T (hok x (by simp [Op.operands]))
      rw [hx] at hr
      obtain ⟨a', he, hp⟩ := hr.ptr_inv
      exact ⟨_, by simp [execOp, he], VR.ptr hp⟩
    · cases hv
  · rename_i op t x y t2
    obtain ⟨v', h1, h2⟩ := binC_rel (w := w) (ev_rel H T (hok x (by simp [Op.operands]))) (ev_rel H T (hok y (by simp [Op.operands]))) hv
    refine ⟨v', ?_, h2⟩
    simp only [execOp, Sem.run_bind] at h1 ⊢
    rw [h1]; simp
  · rename_i op t x
    obtain ⟨v', h1, h2⟩ := un_rel (P := P) (w := w) (ev_rel H T (hok x (by simp [Op.operands]))) hv
    exact ⟨v', by simp [execOp, h1], h2⟩
  · rename_i s d x
    obtain ⟨v', h1, h2⟩ := conv_rel H (ev_rel H T (hok x (by simp [Op.operands]))) hv
    exact ⟨v', by simp [execOp, h1], h2⟩
  · rename_i t x
    split at hv
    · rename_i hc
      cases hv
      exact ⟨_, by simp [execOp, run_makeInterface w t _ hc], VR.iface (ev_rel H T (hok x (by simp [Op.operands])))⟩
    · cases hv
  · rename_i fn fi ca
    split at hv
    · rename_i hf
      cases hv
      exact ⟨_, by simp [execOp, Instr.makeFunc], VR.func hf (evs_rel H T (fun x hx => hok x (by simp [Op.operands, hx]))) (evs_rel H T (fun x hx => hok x (by simp [Op.operands, hx])))⟩
    · cases hv
  · rename_i t x lo hi mx
    obtain ⟨v', h1, h2⟩ := slice_rel H (ev_rel H T (hok x (by simp [Op.operands])))
      (evo_rel H T (x := lo) (fun y hy => hok y (by simp [Op.operands, hy]))) (evo_rel H T (x := hi) (fun y hy => hok y (by simp [Op.operands, hy]))) (evo_rel H T (x := mx) (fun y hy => hok y (by simp [Op.operands, hy]))) hv
    exact ⟨v', by simp [execOp, h1], h2⟩
  · rename_i t x f
    obtain ⟨v', h1, h2⟩ := fieldAddr_rel (w := w) (ev_rel H T (hok x (by simp [Op.operands]))) hv
    exact ⟨v', by simp [execOp, h1], h2⟩
  · rename_i t x f
    obtain ⟨v', h1, h2⟩ := field_rel (w := w) (ev_rel H T (hok x (by simp [Op.operands]))) hv
    exact ⟨v', by simp [execOp, h1], h2⟩
  · rename_i t x i
    obtain ⟨v', h1, h2⟩ := indexAddr_rel (w := w) (ev_rel H T (hok x (by simp [Op.operands]))) (ev_rel H T (hok i (by simp [Op.operands]))) hv
    exact ⟨v', by simp [execOp, h1], h2⟩
  · rename_i t x i
    obtain ⟨v', h1, h2⟩ := index_rel (w := w) (ev_rel H T (hok x (by simp [Op.operands]))) (ev_rel H T (hok i (by simp [Op.operands]))) hv
    exact ⟨v', by simp [execOp, h1], h2⟩
  · rename_i x i
    split at hv
    · rename_i vs hx
      have hr := ev_rel H T (hok x (by simp [Op.operands]))
      rw [hx] at hr
      obtain ⟨ys, he, hp⟩ := hr.tuple_inv
      obtain ⟨y, hy, hr2⟩ := hp.get hv
      exact ⟨y, by simp [execOp, he, Instr.extract, hy], hr2⟩
    · cases hv
  · rename_i t parts
    obtain ⟨v', h1, h2⟩ := build_rel (w := w) (ρ := ρ) (ps := parts.map fun (i, x) => (i, ev tm x)) (ps' := parts.map fun (i, x) => (i, a.eval x)) (by simp) (fun i p q h1 h2 => by
      simp only [Array.getElem?_map, Option.map_eq_some_iff] at h1 h2
      obtain ⟨x, hx, rfl⟩ := h1
      obtain ⟨y, hy, rfl⟩ := h2
      rw [hx] at hy; cases hy
      refine ⟨rfl, ev_rel H T (hok x.2 ?_)⟩
      have hm := Array.mem_of_getElem? hx
      simp only [Op.operands, List.mem_toArray, List.mem_map]
      exact ⟨x, by simpa using hm, rfl⟩) hv
    exact ⟨v', by simp [execOp, h1], h2⟩
  · rename_i b args ts
    obtain ⟨v', h1, h2⟩ := builtin_rel (w := w) (ts := ts) ty (evs_rel H T (xs := args) (fun x hx => hok x (by simp [Op.operands, Call.operands, hx]))) hv
    exact ⟨v', by simp [execOp, resolve, invoke, h1], h2⟩
  · cases hv
end
end Go.Proofs.YthmpaddhmgnkbaaDoor.Am
end
section
/- The frame Am, seventh text: the operations that make or write memory, told of abstract heaps, and that a world's run agrees. Nothing of a program stands here. -/
set_option linter.unusedVariables false
set_option linter.unusedSimpArgs false
namespace Go.Proofs.YthmpaddhmgnkbaaDoor.Am
open Go Go.RowKit

section
variable {P : Program} {w0 w : World} {ρ : Ren} {h : Heap}
theorem run_store1 {a : Addr} {v u : Value} (h1 : one v = true) (hc : w.cell? a = some u) (hf : w.frozen? a = false) : (store a v).run P w = .ok () (w.setCell a v) := by
  cases v <;> first | (cases h1; done) | simp [store, Sem.run, hc, hf]
theorem run_cells (g o : Nat) (t : TypeId) (fr : Nat × Nat) : ∀ (vs : List Value) (i : Nat) (arr : Array Value) (w : World), (∀ v, v ∈ vs → one v = true) → w.heap[g]? = some (.cells arr t fr) → o + i + vs.length ≤ arr.size →
    (∀ j, j < arr.size → ¬ (fr.1 ≤ j ∧ j < fr.2)) →
    ∃ w1, (storeCells ⟨g, o, none⟩ vs i).run P w = .ok () w1 ∧ w1.os = w.os ∧ w1.tape = w.tape ∧ w1.output = w.output ∧ w1.heap.size = w.heap.size ∧ (∀ x, x ≠ g → w1.heap[x]? = w.heap[x]?) ∧
      ∃ arr', w1.heap[g]? = some (.cells arr' t fr) ∧ arr'.size = arr.size ∧ ∀ j, arr'[j]? = if o + i ≤ j ∧ j < o + i + vs.length then vs[j - (o + i)]? else arr[j]? := by
  intro vs
  induction vs with
  | nil =>
    intro i arr w _ hg _ _
    refine ⟨w, by simp [storeCells], rfl, rfl, rfl, rfl, fun _ _ => rfl, arr, hg, rfl, fun j => ?_⟩
    rw [if_neg (by simp only [List.length_nil]; omega)]
  | cons v vs ih =>
    intro i arr w h1 hg hroom hfr
    simp only [List.length_cons] at hroom
    have hc : w.cell? ⟨g, o + i, none⟩ = some (arr[o + i]'(by omega)) := by
      simp only [World.cell?, hg, Option.isSome_none, Bool.false_eq_true, if_false]
      exact Array.getElem?_eq_getElem _
    have hf : w.frozen? ⟨g, o + i, none⟩ = false := by
      simp only [World.frozen?, hg]
      have := hfr (o + i) (by omega)
      simp only [Bool.and_eq_false_iff, decide_eq_false_iff_not]
      omega
    have hs := run_store1 (P := P) (h1 v (by simp)) hc hf
    have hg1 : (w.setCell ⟨g, o + i, none⟩ v).heap[g]? = some (.cells (arr.setIfInBounds (o + i) v) t fr) := by
      simp only [World.setCell, Array.getElem?_modify, if_true, hg, Option.map_some, Option.isSome_none, Bool.false_eq_true, if_false]
    obtain ⟨w1, r1, r2, r3, r4, r5, r6, arr', r7, r8, r9⟩ := ih (i + 1) (arr.setIfInBounds (o + i) v) (w.setCell ⟨g, o + i, none⟩ v) (fun u hu => h1 u (by simp [hu])) hg1 (by simp only [Array.size_setIfInBounds]; omega) (fun j hj => hfr j (by simpa using hj))
    refine ⟨w1, ?_, r2, r3, r4, by rw [r5]; simp [World.setCell], fun x hx => ?_, arr', r7, by rw [r8]; simp, fun j => ?_⟩
    · simp only [storeCells, Sem.run_bind, add_plain', hs, Result.andThen_ok]
      exact r1
    · rw [r6 x hx]
      simp only [World.setCell, Array.getElem?_modify]
      rw [if_neg (fun e => hx e.symm)]
    · rw [r9]
      by_cases e : j = o + i
      · subst e
        rw [if_neg (by omega), if_pos (by simp only [List.length_cons]; omega), show o + i - (o + i) = 0 from by omega, Array.getElem?_setIfInBounds, if_pos rfl, if_pos (by omega)]
        rfl
      · by_cases hj : o + (i + 1) ≤ j ∧ j < o + (i + 1) + vs.length
        · rw [if_pos hj, if_pos (by simp only [List.length_cons]; omega)]
          obtain ⟨m, hm⟩ : ∃ m, j = o + (i + 1) + m := ⟨j - (o + (i + 1)), by omega⟩
          subst hm
          rw [show o + (i + 1) + m - (o + (i + 1)) = m from by omega, show o + (i + 1) + m - (o + i) = m + 1 from by omega]
          rfl
        · rw [if_neg hj, if_neg (by simp only [List.length_cons]; omega)]
          rw [Array.getElem?_setIfInBounds, if_neg (fun e' => e e'.symm)]

theorem below_alloc' (w : World) (o : Obj) : Below w.heap.size w (w.alloc o) := (Below.refl _ _).alloc (Nat.le_refl _) o
/-- A new row. -/
theorem new_rel (H : HRel P w0 ρ h w) {e : TypeId} {s : Nat} (hs : asz P e = some s) {cells : List Value} {cs : Array Value} (hone : ∀ v, v ∈ cells → one v = true) (hc : AR ρ cells.toArray cs) (rest : Array Value) :
    ∃ ρ', RenLe ρ ρ' ∧ HRel P w0 ρ' (h.new e cells) (w.alloc (.cells (cs ++ rest) e)) ∧ ρ' h.size = some ⟨w.heap.size, 0, s, cs.size + rest.size, false⟩ := by
  obtain ⟨i, hi, rfl⟩ := Option.map_eq_some_iff.1 hs
  refine ⟨_, H.le_add ⟨w.heap.size, 0, i.size, (cs ++ rest).size, false⟩, H.pushed (Nat.le_refl _) hi (below_alloc' w _) (heap_alloc_new w _) ⟨Nat.le_refl _, fun o _ => by simp, ⟨i, hi, rfl⟩, fun _ => by simp⟩ ?_ ?_, ?_⟩
  · have := hc.1; simp at this ⊢; omega
  · intro j v hj
    have hjl := (List.getElem?_eq_some_iff.1 hj).1
    obtain ⟨y, hy, hr⟩ := hc.get (i := j) (x := v) (by simpa using hj)
    have hjc := (Array.getElem?_eq_some_iff.1 hy).1
    exact ⟨hone v (List.mem_of_getElem? hj), y, by rw [Array.getElem?_append_left hjc]; exact hy, hr⟩
  · rw [Ren.add_self]; simp
end
end Go.Proofs.YthmpaddhmgnkbaaDoor.Am
end
