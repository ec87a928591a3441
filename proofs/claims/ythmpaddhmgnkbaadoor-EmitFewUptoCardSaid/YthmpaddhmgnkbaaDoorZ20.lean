/- The texts of this seat, one behind another (part 20 of 25): the frame (an abstract machine), the contracts of functions, the laws. -/
import Derived.Test.YthmpaddhmgnkbaaDoorZ18
import Derived.DataReads
section
/- The frame Am, a text beside the others: arguments of any plain type (numbers, bools, texts, slices, structs and arrays of them), from their reading to the abstract heap. Nothing of a program stands here. -/
set_option linter.unusedVariables false
set_option linter.unusedSimpArgs false
namespace Go.Proofs.YthmpaddhmgnkbaaDoor.Am
open Go Go.RowKit Go.ChangeShapes Go.WideShapes
inductive Tree where
  | num (x : Int)
  | bool (b : Bool)
  | str (s : ByteArray)
  | list (es : List Tree)
  | agg (ps : List Tree)
/-- How a tree lies in an abstract heap. -/
inductive Lay (P : Program) (h : Heap) : TypeId → Tree → List Value → Prop
  | num {t : TypeId} {k : IntKind} {x : Int} (ht : P.underlying t = some (.int k)) (hw : (Lit.int k x).wf = true) : Lay P h t (.num x) [.int k x]
  | bool {t : TypeId} {b : Bool} (ht : P.underlying t = some .bool) : Lay P h t (.bool b) [.bool b]
  | str {t : TypeId} {s : ByteArray} (ht : P.underlying t = some .string) (hl : s.size ≤ maxLen) : Lay P h t (.str s) [.string s]
  | nil {t e : TypeId} (ht : P.underlying t = some (.slice e)) : Lay P h t (.list []) [.slice none 0 0]
  | slice {t e : TypeId} {b : Nat} {cells : List Value} {es : List Tree} (ht : P.underlying t = some (.slice e)) (hb : b < h.size) (hk : h.get b = some (inBlk e cells)) (hc : cells.length = es.length * P.cellsOf e) (hl : es.length ≤ maxLen)
      (hall : ∀ i x, es[i]? = some x → Lay P h e x ((cells.drop (i * P.cellsOf e)).take (P.cellsOf e))) : Lay P h t (.list es) [.slice (some ⟨b, 0, none⟩) es.length 0]
  | struct {t : TypeId} {fs : Array Field} {ps : List Tree} {cs : List Value} (ht : P.underlying t = some (.struct fs)) (hl : cs.length = P.cellsOf t) (hn : ps.length = fs.size)
      (hall : ∀ (i : Nat) f x, fs[i]? = some f → ps[i]? = some x → Lay P h f.type x ((cs.drop f.offset).take (P.cellsOf f.type))) : Lay P h t (.agg ps) cs
  | array {t e : TypeId} {n : Nat} {ps : List Tree} {cs : List Value} (ht : P.underlying t = some (.array n e)) (hl : cs.length = P.cellsOf t) (hn : ps.length = n)
      (hall : ∀ (i : Nat) x, ps[i]? = some x → Lay P h e x ((cs.drop (i * P.cellsOf e)).take (P.cellsOf e))) : Lay P h t (.agg ps) cs
/-- Fields one behind another. -/
def tightF (P : Program) : Nat → List Field → Option Nat
  | o, [] => some o
  | o, f :: fs => if f.offset = o then tightF P (o + P.cellsOf f.type) fs else none
/-- A plain type. -/
def shOk (P : Program) : Nat → TypeId → Bool
  | 0, _ => false
  | n + 1, t =>
    match P.underlying t with
    | some (.int _) => P.cellsOf t == 1
    | some .bool => P.cellsOf t == 1
    | some .string => P.cellsOf t == 1
    | some (.slice e) => P.cellsOf t == 1 && decide (0 < P.cellsOf e) && (match P.info? e with | some i => i.size == P.cellsOf e | none => false) && shOk P n e
    | some (.struct fs) => (tightF P 0 fs.toList == some (P.cellsOf t)) && fs.toList.all fun f => shOk P n f.type
    | some (.array m e) => P.cellsOf t == m * P.cellsOf e && shOk P n e
    | _ => false
theorem addr_add0 (a : Addr) : a.add 0 = a := by
  cases a; unfold Addr.add; split <;> simp_all
/-! ### Lists of lists -/
theorem flat_len {α : Type} {A : List (List α)} : ∀ {szs : List Nat}, A.length = szs.length → (∀ (i : Nat) (a : List α), A[i]? = some a → szs[i]? = some a.length) → A.flatten.length = szs.sum := by
  induction A with
  | nil => intro szs h _; cases szs with
    | nil => rfl
    | cons s ss => simp at h
  | cons a A ih =>
    intro szs h hs
    cases szs with
    | nil => simp at h
    | cons s ss =>
      have h0 := hs 0 a rfl
      simp at h0
      subst h0
      have := ih (szs := ss) (by simpa using h) (fun i b hb => by simpa using hs (i + 1) b (by simpa using hb))
      simp [this]
theorem flat_part {α : Type} {A : List (List α)} : ∀ {szs : List Nat}, A.length = szs.length → (∀ (i : Nat) (a : List α), A[i]? = some a → szs[i]? = some a.length) → ∀ {k : Nat} {a : List α}, A[k]? = some a → (A.flatten.drop (szs.take k).sum).take a.length = a := by
  induction A with
  | nil => intro szs _ _ k a h; simp at h
  | cons b A ih =>
    intro szs h hs k a hk
    cases szs with
    | nil => simp at h
    | cons s ss =>
      have h0 := hs 0 b rfl
      simp at h0
      subst h0
      cases k with
      | zero => simp at hk; subst hk; simp
      | succ k =>
        simp at hk
        have := ih (szs := ss) (by simpa using h) (fun i c hc => by simpa using hs (i + 1) c (by simpa using hc)) hk
        simp only [List.flatten_cons, List.take_succ_cons, List.sum_cons]
        rw [List.drop_append, List.drop_of_length_le (by omega), List.nil_append, Nat.add_sub_cancel_left]
        exact this
theorem flat_point {α β : Type} {R : α → β → Prop} {A : List (List α)} : ∀ {B : List (List β)}, A.length = B.length → (∀ (i : Nat) (a : List α) (b : List β), A[i]? = some a → B[i]? = some b → a.length = b.length ∧ ∀ (j : Nat) x y, a[j]? = some x → b[j]? = some y → R x y) →
    ∀ (j : Nat) x y, A.flatten[j]? = some x → B.flatten[j]? = some y → R x y := by
  induction A with
  | nil => intro B h _ j x y hx; simp at hx
  | cons a A ih =>
    intro B h hs j x y hx hy
    cases B with
    | nil => simp at h
    | cons b B =>
      obtain ⟨h1, h2⟩ := hs 0 a b rfl rfl
      simp only [List.flatten_cons] at hx hy
      by_cases hj : j < a.length
      · rw [List.getElem?_append_left hj] at hx
        rw [List.getElem?_append_left (by omega)] at hy
        exact h2 j x y hx hy
      · rw [List.getElem?_append_right (by omega)] at hx hy
        rw [← h1] at hy
        exact ih (B := B) (by simpa using h) (fun i c d hc hd => hs (i + 1) c d (by simpa using hc) (by simpa using hd)) _ x y hx hy
def splitBy {α : Type} : List Nat → List α → List (List α)
  | [], _ => []
  | s :: ss, l => l.take s :: splitBy ss (l.drop s)
theorem split_len {α : Type} : ∀ {szs : List Nat} {l : List α}, (splitBy szs l).length = szs.length
  | [], _ => rfl
  | s :: ss, l => by simp [splitBy, split_len]
theorem split_flat {α : Type} : ∀ {szs : List Nat} {l : List α}, l.length = szs.sum → (splitBy szs l).flatten = l
  | [], l, h => by simp at h; subst h; rfl
  | s :: ss, l, h => by
    simp only [List.sum_cons] at h
    simp only [splitBy, List.flatten_cons]
    rw [split_flat (by rw [List.length_drop]; omega), List.take_append_drop]
theorem split_get {α : Type} : ∀ {szs : List Nat} {l : List α} {k s : Nat}, szs[k]? = some s → (splitBy szs l)[k]? = some ((l.drop (szs.take k).sum).take s)
  | [], l, k, s, h => by simp at h
  | z :: ss, l, 0, s, h => by simp at h; subst h; simp [splitBy]
  | z :: ss, l, k + 1, s, h => by
    simp at h
    simp only [splitBy, List.getElem?_cons_succ, List.take_succ_cons, List.sum_cons]
    rw [split_get h, List.drop_drop]
section
variable {H : Type} {enc : TypeId × Value → H} {P : Program} {W : World}
/-- One thing that was handed in, wherever its blocks are put. -/
def Imp (P : Program) (W : World) (t : TypeId) (cs : List Value) (tr : Tree) : Prop :=
  ∀ p : Nat, ∃ (bl : List (Blk × Loc)) (cs' : List Value), cs'.length = cs.length ∧ ∀ pre post : List (Blk × Loc), pre.length = p →
    (∀ x, x ∈ bl → Lies P W (startRen (pre ++ bl ++ post)) x) ∧ (∀ (i : Nat) v v', cs'[i]? = some v → cs[i]? = some v' → one v = true ∧ VR (startRen (pre ++ bl ++ post)) v v') ∧ Lay P (startHeap (pre ++ bl ++ post)) t tr cs'
/-- Several. -/
theorem impL : ∀ (L : List (TypeId × List Value × Tree)), (∀ x, x ∈ L → Imp P W x.1 x.2.1 x.2.2) → ∀ p : Nat, ∃ (bl : List (Blk × Loc)) (css : List (List Value)), css.length = L.length ∧ (∀ (i : Nat) (x : TypeId × List Value × Tree) (c : List Value), L[i]? = some x → css[i]? = some c → c.length = x.2.1.length) ∧
    ∀ pre post : List (Blk × Loc), pre.length = p → (∀ x, x ∈ bl → Lies P W (startRen (pre ++ bl ++ post)) x) ∧
      ∀ (i : Nat) (x : TypeId × List Value × Tree) (c : List Value), L[i]? = some x → css[i]? = some c → (∀ (j : Nat) v v', c[j]? = some v → x.2.1[j]? = some v' → one v = true ∧ VR (startRen (pre ++ bl ++ post)) v v') ∧ Lay P (startHeap (pre ++ bl ++ post)) x.1 x.2.2 c := by
  intro L
  induction L with
  | nil => intro _ p; exact ⟨[], [], rfl, fun i x c h => by simp at h, fun pre post _ => ⟨fun x hx => by simp at hx, fun i x c h => by simp at h⟩⟩
  | cons y L ih =>
    intro hL p
    obtain ⟨b1, c1, l1, g1⟩ := hL y (by simp) p
    obtain ⟨b2, css, l2, m2, g2⟩ := ih (fun x hx => hL x (by simp [hx])) (p + b1.length)
    refine ⟨b1 ++ b2, c1 :: css, by simp [l2], fun i x c hx hc => ?_, fun pre post hp => ?_⟩
    · cases i with
      | zero => simp at hx hc; subst hx; subst hc; exact l1
      | succ i => exact m2 i x c (by simpa using hx) (by simpa using hc)
    · have e1 := g1 pre (b2 ++ post) hp
      have e2 := g2 (pre ++ b1) post (by simp [hp])
      rw [show pre ++ b1 ++ (b2 ++ post) = pre ++ (b1 ++ b2) ++ post by simp] at e1
      rw [show pre ++ b1 ++ b2 ++ post = pre ++ (b1 ++ b2) ++ post by simp] at e2
      refine ⟨fun x hx => (List.mem_append.1 hx).elim (e1.1 x) (e2.1 x), fun i x c hx hc => ?_⟩
      cases i with
      | zero => simp at hx hc; subst hx; subst hc; exact e1.2
      | succ i => exact e2.2 i x c (by simpa using hx) (by simpa using hc)
/-- What was read, as a tree. -/
inductive Dat : DataW H → Tree → Prop
  | num {k : IntKind} {x : Int} : Dat (.lit (.int k x)) (.num x)
  | bool {b : Bool} : Dat (.lit (.bool b)) (.bool b)
  | str {s : ByteArray} : Dat (.lit (.string s.data.toList)) (.str s)
  | nil : Dat .nil (.list [])
  | slice {es sp : List (DataW H)} {ts : List Tree} (hl : es.length = ts.length) (hall : ∀ (i : Nat) d t, es[i]? = some d → ts[i]? = some t → Dat d t) : Dat (.slice es sp) (.list ts)
  | agg {es : List (DataW H)} {ts : List Tree} (hl : es.length = ts.length) (hall : ∀ (i : Nat) d t, es[i]? = some d → ts[i]? = some t → Dat d t) : Dat (.agg es) (.agg ts)
theorem tightF_at : ∀ {fs : List Field} {o tot : Nat}, tightF P o fs = some tot → tot = o + (fs.map fun f => P.cellsOf f.type).sum ∧ ∀ (i : Nat) f, fs[i]? = some f → f.offset = o + (((fs.map fun f => P.cellsOf f.type)).take i).sum
  | [], o, tot, h => by simp only [tightF, Option.some.injEq] at h; subst h; exact ⟨by simp, fun i f hf => by simp at hf⟩
  | g :: fs, o, tot, h => by
    simp only [tightF] at h
    split at h
    · rename_i e
      obtain ⟨h1, h2⟩ := tightF_at h
      refine ⟨by simp only [List.map_cons, List.sum_cons]; omega, fun i f hf => ?_⟩
      cases i with
      | zero => simp at hf; subst hf; simpa using e
      | succ i =>
        simp at hf
        have := h2 i f hf
        simp only [List.map_cons, List.take_succ_cons, List.sum_cons]; omega
    · cases h
theorem sum_rep {n s : Nat} : (List.replicate n s).sum = n * s := by
  induction n with
  | zero => simp
  | succ n ih => simp only [List.replicate_succ, List.sum_cons, ih, Nat.add_mul]; omega
/-- One value alone. -/
theorem imp_one {t : TypeId} {v v' : Value} {tr : Tree} (h1 : one v = true) (hv : ∀ ρ, VR ρ v v') (hl : ∀ h, Lay P h t tr [v]) : Imp P W t [v'] tr :=
  fun p => ⟨[], [v], rfl, fun pre post _ => ⟨fun x hx => by simp at hx, fun i a b ha hb => by
    cases i with
    | zero => simp at ha hb; subst ha; subst hb; exact ⟨h1, hv _⟩
    | succ i => simp at ha, hl _⟩⟩
/-- Parts one behind another. -/
theorem imp_parts {L : List (TypeId × List Value × Tree)} (hL : ∀ x, x ∈ L → Imp P W x.1 x.2.1 x.2.2) {t : TypeId} {tr : Tree} {cs : List Value} (hcs : (L.map (·.2.1)).flatten = cs)
    (hlay : ∀ (h : Heap) (cs' : List Value), cs'.length = cs.length → (∀ (k : Nat) x, L[k]? = some x → Lay P h x.1 x.2.2 ((cs'.drop (((L.map (·.2.1)).map List.length).take k).sum).take x.2.1.length)) → Lay P h t tr cs') : Imp P W t cs tr := by
  intro p
  obtain ⟨bl, css, hl, hls, hh⟩ := impL L hL p
  have hsz : ∀ (i : Nat) (a : List Value), css[i]? = some a → ((L.map (·.2.1)).map List.length)[i]? = some a.length := fun i a ha => by
    have hi : i < L.length := by have := (List.getElem?_eq_some_iff.1 ha).1; omega
    have := hls i L[i] a (by simp [hi]) ha
    simp [hi, this]
  have hszl : css.length = ((L.map (·.2.1)).map List.length).length := by simp [hl]
  have hlen : css.flatten.length = cs.length := by
    rw [flat_len hszl hsz, ← hcs, List.length_flatten]
  refine ⟨bl, css.flatten, hlen, fun pre post hp => ?_⟩
  obtain ⟨g1, g2⟩ := hh pre post hp
  refine ⟨g1, ?_, hlay _ _ hlen fun k x hx => ?_⟩
  · rw [← hcs]
    refine flat_point (R := fun v v' => one v = true ∧ VR (startRen (pre ++ bl ++ post)) v v') (by simp [hl]) fun i a b ha hb => ?_
    rw [List.getElem?_map, Option.map_eq_some_iff] at hb
    obtain ⟨x, hx, rfl⟩ := hb
    exact ⟨hls i x a hx ha, (g2 i x a hx ha).1⟩
  · have hk : k < css.length := by have := (List.getElem?_eq_some_iff.1 hx).1; omega
    have hc : css[k]? = some css[k] := by simp [hk]
    have e1 := flat_part hszl hsz hc
    have e2 := hls k x css[k] hx hc
    rw [← e2, e1]
    exact (g2 k x css[k] hx hc).2
theorem imp_of (h0 : 0 < W.heap.size) : ∀ (n : Nat) {t : TypeId} {cs : List Value} {fuel : Nat} {x : DataW H × List MemPlace}, shOk P n t = true → DataW.trod enc P W 0 (fun _ => true) true fuel t cs = some x → ∃ tr, Imp P W t cs tr ∧ Dat x.1 tr := by
  intro n
  induction n with
  | zero => intro t cs fuel x h; simp [shOk] at h
  | succ n ih =>
    intro t cs fuel x hsh h
    unfold shOk at hsh
    split at hsh
    · rename_i k ht
      obtain ⟨z, rfl, rfl, hw⟩ := DataW.trod_int ht h
      exact ⟨.num z, imp_one rfl (fun _ => VR.int _ _) (fun _ => .num ht hw), .num⟩
    · rename_i ht
      obtain ⟨b, rfl, rfl⟩ := DataW.trod_bool ht h
      exact ⟨.bool b, imp_one rfl (fun _ => VR.bool _) (fun _ => .bool ht), .bool⟩
    · rename_i ht
      obtain ⟨s, rfl, rfl, hl⟩ := DataW.trod_string ht h
      exact ⟨.str s, imp_one rfl (fun _ => VR.string _) (fun _ => .str ht hl), .str⟩
    · rename_i e ht
      simp only [Bool.and_eq_true, beq_iff_eq, decide_eq_true_eq] at hsh
      obtain ⟨⟨⟨_, hs0⟩, hinfo⟩, hshe⟩ := hsh
      have hinf : ∃ i, P.info? e = some i ∧ i.size = P.cellsOf e := by
        split at hinfo
        · rename_i i hi; exact ⟨i, hi, by simpa using hinfo⟩
        · cases hinfo
      rcases DataW.trod_slice ht h with ⟨rfl, rfl⟩ | ⟨a, len, cap, elems, rest, m, _, rfl, rfl, _, hlc, hcm, hlen, hel, hsp, _⟩
      · exact ⟨.list [], imp_one rfl (fun _ => VR.nilslice) (fun _ => .nil ht), .nil⟩
      · obtain ⟨hrl, hrest⟩ := hsp rfl
        generalize hs : P.cellsOf e = s at *
        have each : ∀ i : Nat, ∃ f : List Value × Tree, i < len → W.cells? 0 (a.add (i * s)) s = some f.1 ∧ Imp P W e f.1 f.2 ∧ ∀ d, elems[i]? = some d → Dat d.1 f.2 := fun i => by
          by_cases hi : i < len
          · have h1 := hel i hi
            have h2 : elems[i]? = some (elems[i]'(by omega)) := List.getElem?_eq_getElem _
            rw [h2, Option.bind_eq_some_iff] at h1
            obtain ⟨c, hc1, hc2⟩ := h1
            obtain ⟨tr, g1, g2⟩ := ih hshe hc2
            exact ⟨(c, tr), fun _ => ⟨hc1, g1, fun d hd => by rw [h2] at hd; cases hd; exact g2⟩⟩
          · exact ⟨([], .list []), fun h => absurd h hi⟩
        obtain ⟨f, hf⟩ := Classical.axiomOfChoice each
        have hcell : ∀ i, i < len → (f i).1.length = s ∧ ∀ j, j < s → W.cell? ((a.add (i * s)).add j) = (f i).1[j]? := fun i hi => (World.cells?_some (hf i hi).1).2
        let L : List (TypeId × List Value × Tree) := (List.range len).map fun i => (e, (f i).1, (f i).2)
        have hLget : ∀ i, i < len → L[i]? = some (e, (f i).1, (f i).2) := fun i hi => by simp [L, hi]
        have hLlen : L.length = len := by simp [L]
        have hL : ∀ x, x ∈ L → Imp P W x.1 x.2.1 x.2.2 := fun x hx => by
          obtain ⟨i, hi, rfl⟩ := List.mem_map.1 hx
          exact (hf i (List.mem_range.1 hi)).2.1
        have hdat : Dat (H := H) (.slice (elems.map (·.1)) (rest.map (·.1))) (.list (L.map (·.2.2))) := by
          refine .slice (by simp [hlen, hLlen]) fun i d t hd ht => ?_
          rw [List.getElem?_map, Option.map_eq_some_iff] at hd ht
          obtain ⟨y, hy, rfl⟩ := hd
          obtain ⟨z, hz, rfl⟩ := ht
          have hi : i < len := by have := (List.getElem?_eq_some_iff.1 hz).1; omega
          rw [hLget i hi] at hz; cases hz
          exact (hf i hi).2.2 y hy
        refine ⟨.list (L.map (·.2.2)), fun p => ?_, hdat⟩
        obtain ⟨bl, css, hl, hls, hh⟩ := impL L hL (p + 1)
        have hcl : ∀ (i : Nat) (c : List Value), css[i]? = some c → c.length = s := fun i c hc => by
          have hi : i < len := by have := (List.getElem?_eq_some_iff.1 hc).1; omega
          rw [hls i _ c (hLget i hi) hc]; exact (hcell i hi).1
        have hszl : css.length = (List.replicate len s).length := by simp [hl, hLlen]
        have hsz : ∀ (i : Nat) (c : List Value), css[i]? = some c → (List.replicate len s)[i]? = some c.length := fun i c hc => by
          have hi : i < len := by have := (List.getElem?_eq_some_iff.1 hc).1; omega
          rw [hcl i c hc]; simp [hi]
        have hfl : css.flatten.length = len * s := by rw [flat_len hszl hsz, sum_rep]
        have part : ∀ (i : Nat) (c : List Value), css[i]? = some c → (css.flatten.drop (i * s)).take s = c := fun i c hc => by
          have hi : i < len := by have := (List.getElem?_eq_some_iff.1 hc).1; omega
          have := flat_part hszl hsz hc
          rw [hcl i c hc, List.take_replicate, sum_rep, show min i len = i by omega] at this; exact this
        have hplace : (∃ blk off, a = ⟨blk, off, none⟩ ∧ blk < W.heap.size) ∨ cap = 0 := by
          by_cases hc0 : cap = 0
          · exact .inr hc0
          · refine .inl ?_
            have hv : ∃ v, W.cell? a = some v := by
              by_cases hl0 : len = 0
              · have h1 := hrest 0 (by omega)
                have h2 : rest[0]? = some (rest[0]'(by omega)) := List.getElem?_eq_getElem _
                rw [h2, Option.bind_eq_some_iff] at h1
                obtain ⟨c, hc1, _⟩ := h1
                obtain ⟨_, g1, g2⟩ := World.cells?_some hc1
                have g3 := g2 0 (by omega)
                rw [hl0] at g3
                simp only [Nat.add_zero, Nat.zero_mul, addr_add0] at g3
                exact ⟨_, g3.trans (List.getElem?_eq_getElem (by omega))⟩
              · have g3 := (hcell 0 (by omega)).2 0 hs0
                simp only [Nat.zero_mul, addr_add0] at g3
                exact ⟨_, g3.trans (List.getElem?_eq_getElem (by have := (hcell 0 (by omega)).1; omega))⟩
            obtain ⟨v, hv⟩ := hv
            obtain ⟨blk, off, spot⟩ := a
            have hspot : spot = none := World.cell?_spot hv
            subst hspot
            refine ⟨blk, off, rfl, ?_⟩
            rcases Nat.lt_or_ge blk W.heap.size with h1 | h1
            · exact h1
            · have : W.heap[blk]? = none := Array.getElem?_eq_none h1
              simp [World.cell?, this] at hv
        let L0 : Loc := match hplace with | _ => if cap = 0 then ⟨0, 0, s, 0, false⟩ else ⟨a.block, a.off, s, a.off + cap * s, false⟩
        have hL0 : L0 = if cap = 0 then ⟨0, 0, s, 0, false⟩ else ⟨a.block, a.off, s, a.off + cap * s, false⟩ := rfl
        refine ⟨(inBlk e css.flatten, L0) :: bl, [.slice (some ⟨p, 0, none⟩) len 0], rfl, fun pre post hp => ?_⟩
        have hg := hh (pre ++ [(inBlk e css.flatten, L0)]) post (by simp [hp])
        rw [show pre ++ [(inBlk e css.flatten, L0)] ++ bl ++ post = pre ++ ((inBlk e css.flatten, L0) :: bl) ++ post by simp] at hg
        obtain ⟨g1, g2⟩ := hg
        generalize hbs : pre ++ ((inBlk e css.flatten, L0) :: bl) ++ post = bs at g1 g2
        have hat : bs[p]? = some (inBlk e css.flatten, L0) := by rw [← hbs, ← hp]; simp
        have hplt : p < bs.length := (List.getElem?_eq_some_iff.1 hat).1
        refine ⟨fun y hy => ?_, fun i v v' hv hv' => ?_, ?_⟩
        · rcases List.mem_cons.1 hy with rfl | hy
          · refine ⟨rfl, rfl, ?_, ?_, fun j v hj => ?_⟩
            · simp only [hL0]
              split
              · exact h0
              · rename_i hc0
                obtain ⟨blk, off, rfl, hb⟩ := hplace.resolve_right hc0
                exact hb
            · simp only [hL0]; obtain ⟨i, hi, hi2⟩ := hinf; exact ⟨i, hi, by split <;> exact hi2⟩
            · have hj' : j < len * s := by have := (List.getElem?_eq_some_iff.1 hj).1; simp only [inBlk] at this; omega
              have hc0 : cap ≠ 0 := by
                intro e; have : len = 0 := by omega
                rw [this] at hj'; omega
              obtain ⟨blk, off, rfl, hb⟩ := hplace.resolve_right hc0
              have hi : j / s < len := Nat.div_lt_of_lt_mul (by rw [Nat.mul_comm]; exact hj')
              have hr : j % s < s := Nat.mod_lt _ hs0
              have hdm : j / s * s + j % s = j := by rw [Nat.mul_comm]; exact Nat.div_add_mod j s
              have hci : css[j / s]? = some (css[j / s]'(by omega)) := List.getElem?_eq_getElem _
              have hpt := part _ _ hci
              have hv1 : (css[j / s]'(by omega))[j % s]? = some v := by
                rw [← hpt, List.getElem?_take, if_pos hr, List.getElem?_drop, hdm]; exact hj
              have hcc := (hcell (j / s) hi).2 (j % s) hr
              rw [add_plain', add_plain', Nat.add_assoc, hdm] at hcc
              have hvl : j % s < (f (j / s)).1.length := by rw [(hcell (j / s) hi).1]; exact hr
              obtain ⟨q1, q2⟩ := (g2 (j / s) _ _ (hLget _ hi) hci).1 (j % s) v ((f (j / s)).1[j % s]) hv1 (by simp [hvl])
              refine ⟨q1, (f (j / s)).1[j % s], ?_, q2⟩
              simp only [hL0, if_neg hc0]
              rw [hcc]; simp [hvl]
          · exact g1 y hy
        · cases i with
          | succ i => simp at hv
          | zero =>
            simp at hv hv'
            subst hv; subst hv'
            refine ⟨rfl, VR.slice ⟨rfl, hlc, .inl rfl, ?_⟩⟩
            by_cases hc0 : cap = 0
            · exact .inr hc0
            · obtain ⟨blk, off, rfl, hb⟩ := hplace.resolve_right hc0
              refine .inl ⟨rfl, ⟨L0.blk, L0.off, L0.sz, L0.top, false⟩, by simp [startRen, hat], ?_, ?_⟩
              · simp only [hL0, if_neg hc0, Nat.add_zero]
              · simp only [hL0, if_neg hc0, Nat.add_zero]; exact Nat.le_refl _
        · have hbk : (startHeap bs).get p = some (inBlk e css.flatten) := by simp [startHeap, hat]
          have := Lay.slice (P := P) (h := startHeap bs) (t := t) (e := e) (b := p) (cells := css.flatten) (es := L.map (·.2.2)) ht hplt hbk (by rw [hfl, hs]; simp [hLlen]) (by simp only [List.length_map, hLlen]; omega) (fun i x hx => by
            rw [List.getElem?_map, Option.map_eq_some_iff] at hx
            obtain ⟨y, hy, rfl⟩ := hx
            have hi : i < css.length := by have := (List.getElem?_eq_some_iff.1 hy).1; omega
            have hci : css[i]? = some css[i] := List.getElem?_eq_getElem _
            have hy2 := hLget i (by omega)
            rw [hy] at hy2; cases hy2
            rw [hs, part _ _ hci]
            exact (g2 i _ _ hy hci).2)
          simpa [hLlen] using this
    · rename_i fs ht
      simp only [Bool.and_eq_true, beq_iff_eq, List.all_eq_true] at hsh
      obtain ⟨htight, hall⟩ := hsh
      obtain ⟨htot, hoff⟩ := tightF_at htight
      obtain ⟨xs, m, _, rfl, hcl, hxl, hxs⟩ := DataW.trod_struct ht h
      have each : ∀ i : Nat, ∃ tr : Tree, ∀ fl, fs[i]? = some fl → Imp P W fl.type ((cs.drop fl.offset).take (P.cellsOf fl.type)) tr ∧ ∀ d, xs[i]? = some d → Dat d.1 tr := fun i => by
        cases hfi : fs[i]? with
        | none => exact ⟨.list [], fun fl h => by cases h⟩
        | some fl =>
          have hi : i < xs.length := by have := (Array.getElem?_eq_some_iff.1 hfi).1; omega
          have h1 := hxs i fl hfi
          rw [List.getElem?_eq_getElem hi] at h1
          obtain ⟨tr, g1, g2⟩ := ih (hall fl (Array.mem_toList_iff.2 (Array.mem_of_getElem? hfi))) h1
          refine ⟨tr, fun fl' h => ?_⟩
          cases h
          exact ⟨g1, fun d hd => by rw [List.getElem?_eq_getElem hi] at hd; cases hd; exact g2⟩
      obtain ⟨f, hf⟩ := Classical.axiomOfChoice each
      let szs : List Nat := fs.toList.map fun fl => P.cellsOf fl.type
      let L : List (TypeId × List Value × Tree) := fs.toList.zipIdx.map fun y => (y.1.type, (cs.drop y.1.offset).take (P.cellsOf y.1.type), f y.2)
      have hLget : ∀ i fl, fs[i]? = some fl → L[i]? = some (fl.type, (cs.drop fl.offset).take (P.cellsOf fl.type), f i) := fun i fl h => by
        simp [L, List.getElem?_zipIdx, h]
      have hLlen : L.length = fs.size := by simp [L]
      have hsum : szs.sum = cs.length := by rw [hcl]; simp only [szs]; omega
      have hsplit : L.map (·.2.1) = splitBy szs cs := by
        refine List.ext_getElem? fun i => ?_
        rcases Nat.lt_or_ge i fs.size with hi | hi
        · have hfi : fs[i]? = some fs[i] := Array.getElem?_eq_getElem hi
          rw [List.getElem?_map, hLget i _ hfi, Option.map_some]
          have := hoff i fs[i] (by simp [hi])
          rw [split_get (s := P.cellsOf fs[i].type) (by simp [szs, hi]), this, Nat.zero_add]
        · rw [List.getElem?_eq_none (by simp [hLlen, hi]), List.getElem?_eq_none (by rw [split_len]; simp [szs, hi])]
      have hszs : (L.map (·.2.1)).map List.length = szs := by
        refine List.ext_getElem? fun i => ?_
        rcases Nat.lt_or_ge i fs.size with hi | hi
        · have hfi : fs[i]? = some fs[i] := Array.getElem?_eq_getElem hi
          have ho := hoff i fs[i] (by simp [hi])
          have hle : ((szs.take i).sum) + P.cellsOf fs[i].type ≤ szs.sum := by
            have e1 : szs[i]? = some (P.cellsOf fs[i].type) := by simp [szs, hi]
            have e2 : (szs.take (i + 1)).sum = (szs.take i).sum + P.cellsOf fs[i].type := by
              rw [List.take_add_one, e1]; simp
            have e3 : szs.sum = (szs.take (i + 1)).sum + (szs.drop (i + 1)).sum := by
              rw [← List.sum_append, List.take_append_drop]
            omega
          rw [List.getElem?_map, List.getElem?_map, hLget i _ hfi]
          simp only [Option.map_some, List.length_take, List.length_drop]
          have : szs[i]? = some (P.cellsOf fs[i].type) := by simp [szs, hi]
          rw [this]
          simp only [szs] at hle hsum ho
          congr 1; omega
        · rw [List.getElem?_eq_none (by simp [hLlen, hi]), List.getElem?_eq_none (by simp [szs, hi])]
      refine ⟨.agg (L.map (·.2.2)), imp_parts (L := L) ?_ (by rw [hsplit]; exact split_flat hsum.symm) (fun hh cs' hl' hall' => ?_), .agg (by simp [hxl, hLlen]) fun i d t hd ht => ?_⟩
      · intro y hy
        obtain ⟨i, hi⟩ := List.mem_iff_getElem?.1 hy
        have hi' : i < fs.size := by have := (List.getElem?_eq_some_iff.1 hi).1; omega
        have hfi : fs[i]? = some fs[i] := Array.getElem?_eq_getElem hi'
        rw [hLget i _ hfi] at hi; cases hi
        exact (hf i _ hfi).1
      · refine .struct ht (by rw [hl', hcl]) (by simp [hLlen]) fun i fl x hfi hx => ?_
        rw [List.getElem?_map, hLget i fl hfi, Option.map_some, Option.some.injEq] at hx
        subst hx
        have h1 := hall' i _ (hLget i fl hfi)
        have ho := hoff i fl (by simpa using hfi)
        have hlen1 : ((cs.drop fl.offset).take (P.cellsOf fl.type)).length = P.cellsOf fl.type := by
          have e1 : ((L.map (·.2.1)).map List.length)[i]? = szs[i]? := by rw [hszs]
          rw [List.getElem?_map, List.getElem?_map, hLget i fl hfi] at e1
          have e2 : szs[i]? = some (P.cellsOf fl.type) := by simp [szs, hfi]
          rw [e2] at e1
          simpa using e1
        simp only [hszs, hlen1] at h1
        rw [ho, Nat.zero_add]
        exact h1
      · rw [List.getElem?_map, Option.map_eq_some_iff] at hd ht
        obtain ⟨y, hy, rfl⟩ := hd
        obtain ⟨z, hz, rfl⟩ := ht
        have hi : i < fs.size := by have := (List.getElem?_eq_some_iff.1 hz).1; omega
        have hfi : fs[i]? = some fs[i] := Array.getElem?_eq_getElem hi
        rw [hLget i _ hfi] at hz; cases hz
        exact (hf i _ hfi).2 y hy
    · rename_i k e ht
      simp only [Bool.and_eq_true, beq_iff_eq] at hsh
      obtain ⟨hct, hshe⟩ := hsh
      obtain ⟨xs, m, _, rfl, hcl, hxl, hxs⟩ := DataW.trod_array ht h
      generalize hs : P.cellsOf e = s at *
      have each : ∀ i : Nat, ∃ tr : Tree, i < k → Imp P W e ((cs.drop (i * s)).take s) tr ∧ ∀ d, xs[i]? = some d → Dat d.1 tr := fun i => by
        by_cases hi : i < k
        · have h1 := hxs i hi
          rw [List.getElem?_eq_getElem (by omega)] at h1
          obtain ⟨tr, g1, g2⟩ := ih hshe h1
          exact ⟨tr, fun _ => ⟨g1, fun d hd => by rw [List.getElem?_eq_getElem (by omega)] at hd; cases hd; exact g2⟩⟩
        · exact ⟨.list [], fun h => absurd h hi⟩
      obtain ⟨f, hf⟩ := Classical.axiomOfChoice each
      let L : List (TypeId × List Value × Tree) := (List.range k).map fun i => (e, (cs.drop (i * s)).take s, f i)
      have hLget : ∀ i, i < k → L[i]? = some (e, (cs.drop (i * s)).take s, f i) := fun i hi => by simp [L, hi]
      have hLlen : L.length = k := by simp [L]
      have hlen1 : ∀ i, i < k → ((cs.drop (i * s)).take s).length = s := fun i hi => by
        have : (i + 1) * s ≤ k * s := Nat.mul_le_mul_right s hi
        rw [Nat.add_mul] at this
        simp only [List.length_take, List.length_drop]; omega
      have hszs : (L.map (·.2.1)).map List.length = List.replicate k s := by
        refine List.ext_getElem? fun i => ?_
        rcases Nat.lt_or_ge i k with hi | hi
        · rw [List.getElem?_map, List.getElem?_map, hLget i hi]
          simp only [Option.map_some, hlen1 i hi]; simp [hi]
        · rw [List.getElem?_eq_none (by simp [hLlen, hi]), List.getElem?_eq_none (by simp [hi])]
      have hsplit : L.map (·.2.1) = splitBy (List.replicate k s) cs := by
        refine List.ext_getElem? fun i => ?_
        rcases Nat.lt_or_ge i k with hi | hi
        · rw [List.getElem?_map, hLget i hi, Option.map_some, split_get (s := s) (by simp [hi]), List.take_replicate, sum_rep, show min i k = i by omega]
        · rw [List.getElem?_eq_none (by simp [hLlen, hi]), List.getElem?_eq_none (by rw [split_len]; simp [hi])]
      refine ⟨.agg (L.map (·.2.2)), imp_parts (L := L) ?_ (by rw [hsplit]; exact split_flat (by rw [sum_rep]; omega)) (fun hh cs' hl' hall' => ?_), .agg (by simp [hxl, hLlen]) fun i d t hd ht => ?_⟩
      · intro y hy
        obtain ⟨i, hi, rfl⟩ := List.mem_map.1 hy
        exact (hf i (List.mem_range.1 hi)).1
      · refine .array ht (by rw [hl', hcl]) (by simp [hLlen]) fun i x hx => ?_
        rw [List.getElem?_map, Option.map_eq_some_iff] at hx
        obtain ⟨y, hy, rfl⟩ := hx
        have hi : i < k := by have := (List.getElem?_eq_some_iff.1 hy).1; omega
        have h1 := hall' i _ hy
        rw [hLget i hi] at hy; cases hy
        rw [hszs, List.take_replicate, sum_rep, show min i k = i by omega, hlen1 i hi] at h1
        rw [hs]; exact h1
      · rw [List.getElem?_map, Option.map_eq_some_iff] at hd ht
        obtain ⟨y, hy, rfl⟩ := hd
        obtain ⟨z, hz, rfl⟩ := ht
        have hi : i < k := by have := (List.getElem?_eq_some_iff.1 hz).1; omega
        rw [hLget i hi] at hz; cases hz
        exact (hf i hi).2 y hy
    · cases hsh
end
section
variable {P : Program} {h : Heap} {t e : TypeId} {tr : Tree} {cs : List Value}
theorem Lay.int_inv {k : IntKind} (ht : P.underlying t = some (.int k)) (L : Lay P h t tr cs) : ∃ x, tr = .num x ∧ cs = [.int k x] ∧ (Lit.int k x).wf = true := by
  cases L with
  | num ht' hw => rw [ht] at ht'; cases ht'; exact ⟨_, rfl, rfl, hw⟩
  | bool ht' => rw [ht] at ht'; cases ht'
  | str ht' _ => rw [ht] at ht'; cases ht'
  | nil ht' => rw [ht] at ht'; cases ht'
  | slice ht' _ _ _ _ _ => rw [ht] at ht'; cases ht'
  | struct ht' _ _ _ => rw [ht] at ht'; cases ht'
  | array ht' _ _ _ => rw [ht] at ht'; cases ht'
theorem Lay.bool_inv (ht : P.underlying t = some .bool) (L : Lay P h t tr cs) : ∃ b, tr = .bool b ∧ cs = [.bool b] := by
  cases L with
  | num ht' hw => rw [ht] at ht'; cases ht'
  | bool ht' => exact ⟨_, rfl, rfl⟩
  | str ht' _ => rw [ht] at ht'; cases ht'
  | nil ht' => rw [ht] at ht'; cases ht'
  | slice ht' _ _ _ _ _ => rw [ht] at ht'; cases ht'
  | struct ht' _ _ _ => rw [ht] at ht'; cases ht'
  | array ht' _ _ _ => rw [ht] at ht'; cases ht'
theorem Lay.slice_inv (ht : P.underlying t = some (.slice e)) (L : Lay P h t tr cs) : ∃ es, tr = .list es ∧ es.length ≤ maxLen ∧ ((es = [] ∧ cs = [.slice none 0 0]) ∨ ∃ b cells, cs = [.slice (some ⟨b, 0, none⟩) es.length 0] ∧ b < h.size ∧ h.get b = some (inBlk e cells) ∧ cells.length = es.length * P.cellsOf e ∧
    ∀ i x, es[i]? = some x → Lay P h e x ((cells.drop (i * P.cellsOf e)).take (P.cellsOf e))) := by
  cases L with
  | num ht' hw => rw [ht] at ht'; cases ht'
  | bool ht' => rw [ht] at ht'; cases ht'
  | str ht' _ => rw [ht] at ht'; cases ht'
  | nil ht' => exact ⟨[], rfl, Nat.zero_le _, .inl ⟨rfl, rfl⟩⟩
  | slice ht' hb hk hc hl hall => rw [ht] at ht'; cases ht'; exact ⟨_, rfl, hl, .inr ⟨_, _, rfl, hb, hk, hc, hall⟩⟩
  | struct ht' _ _ _ => rw [ht] at ht'; cases ht'
  | array ht' _ _ _ => rw [ht] at ht'; cases ht'
theorem Lay.struct_inv {fs : Array Field} (ht : P.underlying t = some (.struct fs)) (L : Lay P h t tr cs) : ∃ ps, tr = .agg ps ∧ cs.length = P.cellsOf t ∧ ps.length = fs.size ∧ ∀ (i : Nat) f x, fs[i]? = some f → ps[i]? = some x → Lay P h f.type x ((cs.drop f.offset).take (P.cellsOf f.type)) := by
  cases L with
  | num ht' hw => rw [ht] at ht'; cases ht'
  | bool ht' => rw [ht] at ht'; cases ht'
  | str ht' _ => rw [ht] at ht'; cases ht'
  | nil ht' => rw [ht] at ht'; cases ht'
  | slice ht' _ _ _ _ _ => rw [ht] at ht'; cases ht'
  | struct ht' hl hn hall => rw [ht] at ht'; cases ht'; exact ⟨_, rfl, hl, hn, hall⟩
  | array ht' _ _ _ => rw [ht] at ht'; cases ht'
theorem lay_list {α : Type} {c : α → List Value} {tree : α → Tree} {s : Nat} : ∀ {es : List Tree} {cells : List Value}, cells.length = es.length * s → (∀ (i : Nat) x, es[i]? = some x → ∃ a, x = tree a ∧ (cells.drop (i * s)).take s = c a) → ∃ l : List α, es = l.map tree ∧ cells = l.flatMap c ∧ l.length = es.length
  | [], cells, hl, _ => ⟨[], rfl, by simpa using hl, rfl⟩
  | x :: es, cells, hl, hall => by
    simp only [List.length_cons, Nat.add_mul, Nat.one_mul] at hl
    obtain ⟨a, h1, h2⟩ := hall 0 x rfl
    obtain ⟨l, g1, g2, g3⟩ := lay_list (c := c) (tree := tree) (s := s) (es := es) (cells := cells.drop s) (by rw [List.length_drop]; omega) (fun i y hy => by
      obtain ⟨b, q1, q2⟩ := hall (i + 1) y (by simpa using hy)
      refine ⟨b, q1, ?_⟩
      rw [← q2, List.drop_drop]
      congr 2; rw [Nat.add_mul]; omega)
    refine ⟨a :: l, by rw [h1, g1]; rfl, ?_, by simp [g3]⟩
    simp only [Nat.zero_mul, List.drop_zero] at h2
    rw [List.flatMap_cons, ← h2, ← g2, List.take_append_drop]
/-- A slice of structs that was handed in. -/
theorem lay_rows {α : Type} {c : α → List Value} {tree : α → Tree} {s : Nat} (ht : P.underlying t = some (.slice e)) (hs : P.cellsOf e = s) (ha : asz P e = some s) (hall : ∀ x cs, Lay P h e x cs → ∃ a, x = tree a ∧ cs = c a) (L : Lay P h t tr cs) :
    ∃ (w : Value) (l : List α), cs = [w] ∧ tr = .list (l.map tree) ∧ Rd P h s w l.length (l.flatMap c) ∧ l.length ≤ maxLen := by
  obtain ⟨es, rfl, hl, ⟨rfl, rfl⟩ | ⟨b, cells, rfl, hb, hk, hc, hx⟩⟩ := L.slice_inv ht
  · exact ⟨_, [], rfl, rfl, Rd.nil0, Nat.zero_le _⟩
  · rw [hs] at hc hx
    obtain ⟨l, rfl, rfl, hll⟩ := lay_list (c := c) (tree := tree) hc (fun i x hi => hall x _ (hx i x hi))
    have hm : (l.map tree).length = l.length := by simp
    rw [hm] at hc hl
    refine ⟨_, l, rfl, rfl, ⟨hc, .inr ⟨b, 0, 0, _, by rw [hm], hb, hk, rfl, ha, by simp [inBlk, hc], ?_⟩⟩, hl⟩
    simp only [inBlk, List.drop_zero]
    exact List.take_of_length_le (by omega)
end
end Go.Proofs.YthmpaddhmgnkbaaDoor.Am
end
