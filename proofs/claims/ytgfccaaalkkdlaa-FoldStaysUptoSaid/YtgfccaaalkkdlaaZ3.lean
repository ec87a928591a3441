/- The texts of this seat, one behind another (part 3 of 10): the frame (an abstract machine), the contracts of functions, the laws. -/
import Derived.Test.YtgfccaaalkkdlaaZ1
import Derived.Test.YtgfccaaalkkdlaaZ2
import Derived.Test.YtgfccaaalkkdlaaAmKind4
section
/- slices.Delete and slices.Insert at folds, told of abstract memory. -/
set_option linter.unusedSimpArgs false
set_option linter.unusedVariables false
set_option maxHeartbeats 4000000
set_option maxRecDepth 20000
namespace Go.Proofs.Ytgfccaaalkkdlaa.Am
open Go Go.RowKit Go.Proofs.Try
section
variable {P : Program} {w0 w : World} {ρ : Ren} {h : Heap}
/-- The cells of a row, as they lie in a world. -/
theorem row_cells (H : HRel P w0 ρ h w) {b : Nat} {k : Blk} {L : Loc} (hk : h.get b = some k) (hL : ρ b = some L) (hl : k.live = true) {o m : Nat} (hom : o + m ≤ k.cells.length) :
    ∃ cs : List Value, cs.length = m ∧ (∀ j v, cs[j]? = some v → w.cell? ⟨L.blk, L.off + o + j, none⟩ = some v) ∧ ∀ (j : Nat) u v, ((k.cells.drop o).take m)[j]? = some u → cs[j]? = some v → one u = true ∧ VR ρ u v := by
  have B := H.br hk hL
  have rd : ∀ j, j < m → ∃ v', w.cell? ⟨L.blk, L.off + o + j, none⟩ = some v' ∧ one (k.cells.getD (o + j) undef) = true ∧ VR ρ (k.cells.getD (o + j) undef) v' := fun j hj => by
    obtain ⟨h1, v', h2, h3⟩ := B.reads hl (o + j) (k.cells[o + j]'(by omega)) (List.getElem?_eq_getElem _)
    have hd : k.cells.getD (o + j) undef = k.cells[o + j]'(by omega) := by simp [List.getD_eq_getElem?_getD, List.getElem?_eq_getElem (show o + j < k.cells.length by omega)]
    rw [hd]
    exact ⟨v', by rw [← h2, Nat.add_assoc], h1, h3⟩
  let f : Nat → Value := fun j => (w.cell? ⟨L.blk, L.off + o + j, none⟩).getD undef
  have hf : ∀ j, j < m → w.cell? ⟨L.blk, L.off + o + j, none⟩ = some (f j) := fun j hj => by
    obtain ⟨v', h1, _⟩ := rd j hj
    simp only [f, h1, Option.getD_some]
  refine ⟨(List.range m).map f, by simp, fun j v hj => ?_, fun j u v hu hv => ?_⟩
  · rw [List.getElem?_map] at hj
    obtain ⟨x, hx, rfl⟩ := Option.map_eq_some_iff.1 hj
    have hjm : j < m := by have := (List.getElem?_eq_some_iff.1 hx).1; simpa using this
    have : x = j := by
      have := (List.getElem?_eq_some_iff.1 hx).2
      simpa using this.symm
    subst this
    exact hf x hjm
  · rw [List.getElem?_map] at hv
    obtain ⟨x, hx, rfl⟩ := Option.map_eq_some_iff.1 hv
    have hjm : j < m := by have := (List.getElem?_eq_some_iff.1 hx).1; simpa using this
    have : x = j := by
      have := (List.getElem?_eq_some_iff.1 hx).2
      simpa using this.symm
    subst this
    obtain ⟨v', h1, h2, h3⟩ := rd x hjm
    rw [List.getElem?_take, if_pos hjm, List.getElem?_drop] at hu
    have hd : k.cells.getD (o + x) undef = u := by rw [List.getD_eq_getElem?_getD, hu]; rfl
    rw [hd] at h2 h3
    have : f x = v' := by simp only [f, h1, Option.getD_some]
    rw [this]
    exact ⟨h2, h3⟩
theorem oneC {v : Value} : v.oneCell' = one v := by cases v <;> rfl
theorem frozen_no {B t : Nat} {arr : Array Value} {ty : TypeId} {fr : Nat × Nat} (ha : w.heap[B]? = some (.cells arr ty fr)) (hf : ∀ o, o < t → ¬ (fr.1 ≤ o ∧ o < fr.2)) {o : Nat} (ho : o < t) : w.frozen? ⟨B, o, none⟩ = false := by
  simp only [World.frozen?, ha]
  have := hf o ho
  simp only [Bool.and_eq_false_iff, decide_eq_false_iff_not]
  omega
end
/-- A row that has grown in its memory, or anew. -/
theorem grown_rd {h : Heap} {b o c m s : Nat} {k : Blk} {news cells : List Value} (H : Wf h) (hk : h.get b = some k) (ha : asz prog k.elem = some s) (hm : m * s ≤ ((k.cells.drop o).take c ++ news).length) (hc : (((k.cells.drop o).take c ++ news)).take (m * s) = cells) :
    Rd prog (h.grow b k o c news) s (.slice (some ⟨h.size, 0, none⟩) m 0) m cells := by
  obtain ⟨_, g2, g3⟩ := grow_ch H hk (o := o) (c := c) (news := news)
  refine ⟨by rw [← hc, List.length_take, Nat.min_eq_left hm], .inr ⟨h.size, 0, 0, _, rfl, by rw [g3]; omega, g2, rfl, ha, by simpa using hm, ?_⟩⟩
  simpa using hc
theorem delete_ok {v : Value} {l : List F} {i : Nat} {h : Heap} (O : OwnR prog h 3 v l.length (l.flatMap cF)) (hi : i < l.length) :
    ACalls prog 36 #[v, .int .i64 i, .int .i64 (i + 1)] h (fun y h' => FR h' y (l.take i ++ l.drop (i + 1)) ∧ (∀ z, blkOf y = some z → h.size ≤ z) ∧ Ch (FamV h v) h h') := by
  refine ACallsX.wf fun H => ?_
  intro w0 ρ w args' Hr A
  obtain ⟨⟨hlen, hcase⟩, hro⟩ := O
  rcases hcase with ⟨h0, _⟩ | ⟨b, o, c, k, rfl, hlt, hk, hlv, ha, hol, hcells⟩
  · omega
  have hr0 : k.ro = false := by
    obtain ⟨k', g1, g2⟩ := hro b rfl
    rw [hk] at g1; cases g1; exact g2
  have h1 := A.1
  obtain ⟨y0, hy0, hv0⟩ := A.get (i := 0) rfl
  obtain ⟨y1, hy1, hv1⟩ := A.get (i := 1) rfl
  obtain ⟨y2, hy2, hv2⟩ := A.get (i := 2) rfl
  obtain ⟨a', c', rfl, hS⟩ := hv0.slice_inv
  have := hv1.int_inv; subst this
  have := hv2.int_inv; subst this
  obtain ⟨_, hnc, _, hS⟩ := hS
  cases a' with
  | none => exact hS.elim
  | some x' =>
    rcases hS with ⟨hsp, L, hL, rfl, htop⟩ | h0
    · have B := Hr.br hk hL
      obtain ⟨q1, q2, arr, tt, fr, ha1, hsz, hf1, hf2, _⟩ := B.own hr0
      have hs3 : L.sz = 3 := by
        obtain ⟨i', e1, e2⟩ := B.info
        simp only [asz, e1, Option.map_some, Option.some.injEq] at ha
        omega
      rw [hs3] at htop
      have htop : L.off + o + c' * 3 ≤ L.top := htop
      have hc3 : l.length * 3 ≤ c' * 3 := Nat.mul_le_mul_right 3 hnc
      obtain ⟨cs, c1, c2, c3⟩ := row_cells Hr hk hL hlv (o := o) (m := l.length * 3) hol
      rw [hcells] at c3
      have hargs : args' = #[.slice (some ⟨L.blk, L.off + o, none⟩) l.length c', .int .i64 i, .int .i64 (i + 1)] := by
        refine Array.ext' ?_
        obtain ⟨xs⟩ := args'
        match xs, h1, hy0, hy1, hy2 with
        | [p, q, r], _, e0, e1, e2 => simp at e0 e1 e2; simp [e0, e1, e2]
      subst hargs
      have hone : ∀ u, u ∈ cs → u.oneCell' = true := fun u hu => by
        obtain ⟨j, hj⟩ := List.mem_iff_getElem?.1 hu
        have hjl : j < (l.flatMap cF).length := by rw [hlen, ← c1]; exact (List.getElem?_eq_some_iff.1 hj).1
        obtain ⟨g1, g2⟩ := c3 j _ u (List.getElem?_eq_getElem hjl) hj
        rw [oneC, g2.one_eq]; exact g1
      refine (delete_calls L.blk (L.off + o) l.length c' i cs w hi hnc c1 c2 (fun j hj => frozen_no ha1 hf2 (by omega)) hone (fun arr' t' fr' hg => by rw [ha1] at hg; cases hg; omega)).mono fun e w' hq => ?_
      obtain ⟨rfl, I⟩ := hq
      obtain ⟨s2, s3, s4, s5, s6, s7⟩ := I
      have hnews : (l.drop (i + 1)).flatMap cF = (l.flatMap cF).drop ((i + 1) * 3) := fm_drop cF_len hi
      have hnl : ((l.drop (i + 1)).flatMap cF ++ zF).length = (l.length - (i + 1)) * 3 + 3 := by
        rw [List.length_append, fm_len cF_len, List.length_drop]; rfl
      have htk : (k.cells.drop o).take (i * 3) = (l.take i).flatMap cF := by
        rw [fm_take cF_len (by omega), ← hcells, List.take_take, Nat.min_eq_left (by omega)]
      have G := Hr.grownIn (w1 := w') hk hL hlv hr0 (o := o) (c := i * 3) (by omega) (news := (l.drop (i + 1)).flatMap cF ++ zF) (news' := cs.drop ((i + 1) * 3) ++ zF)
        (by rw [hnl, List.length_append, List.length_drop, c1]; simp only [zF, List.length_cons, List.length_nil]; omega)
        (fun j u u' hu hu' => by
          rw [hnews] at hu
          have hdl : ((l.flatMap cF).drop ((i + 1) * 3)).length = (cs.drop ((i + 1) * 3)).length := by rw [List.length_drop, List.length_drop, hlen, c1]
          by_cases hj : j < (cs.drop ((i + 1) * 3)).length
          · rw [List.getElem?_append_left (by omega), List.getElem?_drop] at hu
            rw [List.getElem?_append_left hj, List.getElem?_drop] at hu'
            exact c3 _ _ _ hu hu'
          · rw [List.getElem?_append_right (by omega)] at hu
            rw [List.getElem?_append_right (by omega), ← hdl] at hu'
            rw [hu] at hu'; cases hu'
            have : u ∈ zF := List.mem_of_getElem? hu
            simp only [zF, List.mem_cons, List.not_mem_nil, or_false] at this
            rcases this with rfl | rfl | rfl
            · exact ⟨rfl, VR.int _ _⟩
            · exact ⟨rfl, VR.int _ _⟩
            · exact ⟨rfl, VR.bool _⟩)
        (by rw [hnl]; omega) s2 s3 s4 s5 s6 s7
      refine ⟨_, _, .slice (some ⟨h.size, 0, none⟩) (l.length - 1) 0, .slice (some ⟨L.blk, L.off + o, none⟩) (l.length - 1) c', Hr.le_add _, G, VR.slice ⟨rfl, by omega, .inl rfl, .inl ⟨rfl, _, Ren.add_self, by simp, by simp only [hs3]; omega⟩⟩, .inl ⟨rfl, ?_, fun z e => by cases e; exact Nat.le_refl _, ?_⟩⟩
      · have hln : (l.take i ++ l.drop (i + 1)).length = l.length - 1 := by rw [List.length_append, List.length_take, List.length_drop]; omega
        show Rd prog _ 3 _ (l.take i ++ l.drop (i + 1)).length _
        rw [hln]
        refine grown_rd H hk ha ?_ ?_
        · rw [List.length_append, hnl, htk, fm_len cF_len, List.length_take]; omega
        · rw [htk, List.flatMap_append, ← List.append_assoc]
          refine List.take_left' ?_
          rw [List.length_append, fm_len cF_len, fm_len cF_len, List.length_take, List.length_drop]; omega
      · exact (grow_ch H hk).1.mono fun x hx => ⟨b, rfl, hx⟩
    · omega
end Go.Proofs.Ytgfccaaalkkdlaa.Am
end
section
/- slices.Insert at folds, ahead of the end, told of abstract memory. -/
set_option linter.unusedSimpArgs false
set_option linter.unusedVariables false
set_option maxHeartbeats 4000000
set_option maxRecDepth 20000
namespace Go.Proofs.Ytgfccaaalkkdlaa.Am
open Go Go.RowKit Go.Proofs.Try
theorem insert_ok {v : Value} {l : List F} {f : F} {i xb : Nat} {h : Heap} (O : OwnR prog h 3 v l.length (l.flatMap cF)) (X : Var h xb (cF f)) (hx : ¬ FamV h v xb) (hxe : ∀ k, h.get xb = some k → asz prog k.elem = some 3) (hi : i < l.length) (hl : l.length ≤ 1000000) :
    ACalls prog 33 #[v, .int .i64 i, .slice (some ⟨xb, 0, none⟩) 1 2] h (fun y h' => FR h' y (l.take i ++ f :: l.drop i) ∧ (∀ z, blkOf y = some z → h.size ≤ z) ∧ Ch (FamV h v) h h') := by
  refine ACallsX.wf fun H => ?_
  intro w0 ρ w args' Hr A
  obtain ⟨⟨hlen, hcase⟩, hro⟩ := O
  rcases hcase with ⟨h0, _⟩ | ⟨b, o, c, k, rfl, hlt, hk, hlv, ha, hol, hcells⟩
  · omega
  have hr0 : k.ro = false := by
    obtain ⟨k', g1, g2⟩ := hro b rfl
    rw [hk] at g1; cases g1; exact g2
  obtain ⟨kx, x1, x2, x3, x4, x5, x6⟩ := X
  have h1 := A.1
  obtain ⟨y0, hy0, hv0⟩ := A.get (i := 0) rfl
  obtain ⟨y1, hy1, hv1⟩ := A.get (i := 1) rfl
  obtain ⟨y2, hy2, hv2⟩ := A.get (i := 2) rfl
  obtain ⟨a', c', rfl, hS⟩ := hv0.slice_inv
  have := hv1.int_inv; subst this
  obtain ⟨ax, cx, rfl, hT⟩ := hv2.slice_inv
  obtain ⟨_, hnc, _, hS⟩ := hS
  obtain ⟨_, hmx, hcx, hT⟩ := hT
  cases a' with
  | none => exact hS.elim
  | some x' =>
  cases ax with
  | none => exact hT.elim
  | some z' =>
    rcases hS with ⟨hsp, L, hL, rfl, htop⟩ | h0
    · rcases hT with ⟨_, Lx, hLx, rfl, hxtop⟩ | h0
      · have B := Hr.br hk hL
        obtain ⟨q1, q2, arr, tt, fr, ha1, hsz, hf1, hf2, hti, _⟩ := B.own hr0
        have Bx := Hr.br x1 hLx
        obtain ⟨p1, p2, arrx, tx, frx, hax, hszx, hfx1, hfx2, _, hfx3⟩ := Bx.own x4
        have hsx : Lx.sz = 3 := by
          obtain ⟨i', e1, e2⟩ := Bx.info
          have := hxe kx x1
          simp only [asz, e1, Option.map_some, Option.some.injEq] at this
          omega
        have hne : Lx.blk ≠ L.blk := fun e => by
          have := Hr.sep xb b kx k Lx L x1 hk hLx hL x4 hr0 e
          exact hx ⟨b, rfl, kx, k, x1, hk, this⟩
        have hs3 : L.sz = 3 := by
          obtain ⟨i', e1, e2⟩ := B.info
          simp only [asz, e1, Option.map_some, Option.some.injEq] at ha
          omega
        rw [hs3] at htop
        have htop : L.off + o + c' * 3 ≤ L.top := htop
        have hxtop : Lx.off + 0 + cx * Lx.sz ≤ Lx.top := hxtop
        have hc3 : l.length * 3 ≤ c' * 3 := Nat.mul_le_mul_right 3 hnc
        have hxl : kx.cells.length = 3 := by rw [x2]; rfl
        obtain ⟨cs, c1, c2, c3⟩ := row_cells Hr hk hL hlv (o := o) (m := l.length * 3) hol
        rw [hcells] at c3
        obtain ⟨vs, d1, d2, d3⟩ := row_cells Hr x1 hLx x3 (o := 0) (m := 3) (by omega)
        rw [x2, List.drop_zero, show (cF f).take 3 = cF f from rfl] at d3
        have hargs : args' = #[.slice (some ⟨L.blk, L.off + o, none⟩) l.length c', .int .i64 i, .slice (some ⟨Lx.blk, Lx.off + 0, none⟩) 1 cx] := by
          refine Array.ext' ?_
          obtain ⟨xs⟩ := args'
          match xs, h1, hy0, hy1, hy2 with
          | [p, q, r], _, e0, e1, e2 => simp at e0 e1 e2; simp [e0, e1, e2]
        subst hargs
        have hone : ∀ u, u ∈ cs → u.oneCell' = true := fun u hu => by
          obtain ⟨j, hj⟩ := List.mem_iff_getElem?.1 hu
          have hjl : j < (l.flatMap cF).length := by rw [hlen, ← c1]; exact (List.getElem?_eq_some_iff.1 hj).1
          obtain ⟨g1, g2⟩ := c3 j _ u (List.getElem?_eq_getElem hjl) hj
          rw [oneC, g2.one_eq]; exact g1
        have honev : ∀ u, u ∈ vs → u.oneCell' = true := fun u hu => by
          obtain ⟨j, hj⟩ := List.mem_iff_getElem?.1 hu
          have hjl : j < (cF f).length := by have := (List.getElem?_eq_some_iff.1 hj).1; rw [d1] at this; exact this
          obtain ⟨g1, g2⟩ := d3 j _ u (List.getElem?_eq_getElem hjl) hj
          rw [oneC, g2.one_eq]; exact g1
        have htk : (k.cells.drop o).take (i * 3) = (l.take i).flatMap cF := by
          rw [fm_take cF_len (by omega), ← hcells, List.take_take, Nat.min_eq_left (by omega)]
        have hnews : (l.drop i).flatMap cF = (l.flatMap cF).drop (i * 3) := fm_drop cF_len (by omega)
        have hnl : (cF f ++ (l.drop i).flatMap cF).length = 3 + (l.length - i) * 3 := by
          rw [List.length_append, fm_len cF_len, List.length_drop]; rfl
        have hVR : ∀ (j : Nat) u u', (cF f ++ (l.drop i).flatMap cF)[j]? = some u → (vs ++ cs.drop (i * 3))[j]? = some u' → one u = true ∧ VR ρ u u' := fun j u u' hu hu' => by
          have e3 : (cF f).length = 3 := rfl
          rw [hnews] at hu
          by_cases hj : j < 3
          · rw [List.getElem?_append_left (by rw [e3]; exact hj)] at hu
            rw [List.getElem?_append_left (by rw [d1]; exact hj)] at hu'
            exact d3 _ _ _ hu hu'
          · rw [List.getElem?_append_right (by rw [e3]; omega), List.getElem?_drop, e3] at hu
            rw [List.getElem?_append_right (by rw [d1]; omega), List.getElem?_drop, d1] at hu'
            exact c3 _ _ _ hu hu'
        have post : ∀ h', h' = h.grow b k o (i * 3) (cF f ++ (l.drop i).flatMap cF) → FR h' (.slice (some ⟨h.size, 0, none⟩) (l.length + 1) 0) (l.take i ++ f :: l.drop i) ∧ (∀ z, blkOf (Value.slice (some ⟨h.size, 0, none⟩) (l.length + 1) 0) = some z → h.size ≤ z) ∧ Ch (FamV h (.slice (some ⟨b, o, none⟩) l.length c)) h h' := fun h' e => by
          subst e
          refine ⟨?_, fun z e => by cases e; exact Nat.le_refl _, (grow_ch H hk).1.mono fun x hx => ⟨b, rfl, hx⟩⟩
          have hln : (l.take i ++ f :: l.drop i).length = l.length + 1 := by rw [List.length_append, List.length_take, List.length_cons, List.length_drop]; omega
          show Rd prog _ 3 _ (l.take i ++ f :: l.drop i).length _
          rw [hln]
          refine grown_rd H hk ha ?_ ?_
          · rw [List.length_append, hnl, htk, fm_len cF_len, List.length_take]; omega
          · rw [htk, List.flatMap_append, List.flatMap_cons]
            refine List.take_of_length_le ?_
            rw [List.length_append, hnl, fm_len cF_len, List.length_take]; omega
        by_cases hroom : l.length + 1 ≤ c'
        · have hcap : (l.length + 1) * 3 ≤ c' * 3 := Nat.mul_le_mul_right 3 hroom
          refine (insert_room L.blk (L.off + o) l.length c' i Lx.blk (Lx.off + 0) cx cs vs w hi hroom hl c1 d1 hne c2 (fun j hj => ?_) (fun j hj => frozen_no ha1 hf2 (by omega)) d2 hone honev tx tt arrx.size arr.size (by simp [World.shape?, hax]) (by simp [World.shape?, ha1]) (by omega)
            (frozen_no hax hfx2 (by omega)) (by
              have := hfx3 (by omega)
              simp only [World.frozen?, hax, hszx, Bool.and_eq_false_iff, decide_eq_false_iff_not]
              omega) (fun arr' t' fr' hg => by rw [ha1] at hg; cases hg; omega)).mono fun e w' hq => ?_
          · simp only [World.cell?, ha1, Option.isSome_none, Bool.false_eq_true, if_false]
            rw [Array.getElem?_eq_getElem (by omega)]; rfl
          · obtain ⟨rfl, I⟩ := hq
            obtain ⟨s2, s3, s4, s5, s6, s7⟩ := I
            have G := Hr.grownIn (w1 := w') hk hL hlv hr0 (o := o) (c := i * 3) (by omega) (news := cF f ++ (l.drop i).flatMap cF) (news' := vs ++ cs.drop (i * 3))
              (by rw [hnl, List.length_append, List.length_drop, c1, d1]; omega) hVR (by rw [hnl]; omega) s2 s3 s4 s5 s6 s7
            exact ⟨_, _, .slice (some ⟨h.size, 0, none⟩) (l.length + 1) 0, .slice (some ⟨L.blk, L.off + o, none⟩) (l.length + 1) c', Hr.le_add _, G, VR.slice ⟨rfl, hroom, .inl rfl, .inl ⟨rfl, _, Ren.add_self, by simp, by simp only [hs3]; omega⟩⟩, .inl ⟨rfl, post _ rfl⟩⟩
        · have hcn : c' = l.length := by omega
          subst hcn
          refine (insert_grow L.blk (L.off + o) l.length i Lx.blk (Lx.off + 0) cx cs vs w hi hl c1 d1 c2 d2 hone honev).mono fun e w' hq => ?_
          obtain ⟨g, arr2, rfl, hg1, hg2, hb, hg3, hg4⟩ := hq
          have hcl : ((k.cells.drop o).take (i * 3) ++ (cF f ++ (l.drop i).flatMap cF)).length = (l.length + 1) * 3 := by
            rw [List.length_append, hnl, htk, fm_len cF_len, List.length_take]; omega
          have hgm : (l.length + 1) * 3 ≤ g * 3 := Nat.mul_le_mul_right 3 hg1
          have G := Hr.grownNew hk hL (o := o) (c := i * 3) (news := cF f ++ (l.drop i).flatMap cF) (w1 := w') hb hg3 (by
              obtain ⟨it, e1, _, e3, _⟩ := info_parts info_fold
              exact ⟨it, e1, by omega⟩) (by rw [hcl]; omega) (fun j u hj => by
            have hjl : j < (l.length + 1) * 3 := by have := (List.getElem?_eq_some_iff.1 hj).1; rw [hcl] at this; exact this
            rw [hg4 j hjl]
            have htl : (cs.take (i * 3)).length = i * 3 := by rw [List.length_take, c1]; omega
            have hkl : ((k.cells.drop o).take (i * 3)).length = i * 3 := by rw [htk, fm_len cF_len, List.length_take]; omega
            by_cases hj2 : j < i * 3
            · rw [List.getElem?_append_left (by omega), htk, fm_take cF_len (by omega), List.getElem?_take, if_pos hj2] at hj
              rw [List.getElem?_append_left (by omega), List.getElem?_take, if_pos hj2]
              have hjc : j < cs.length := by omega
              obtain ⟨g1, g2⟩ := c3 j u _ hj (List.getElem?_eq_getElem hjc)
              exact ⟨g1, _, List.getElem?_eq_getElem hjc, g2⟩
            · rw [List.getElem?_append_right (by omega), hkl] at hj
              rw [List.getElem?_append_right (by omega), htl]
              have hjc : j - i * 3 < (vs ++ cs.drop (i * 3)).length := by rw [List.length_append, List.length_drop, c1, d1]; omega
              obtain ⟨g1, g2⟩ := hVR _ u _ hj (List.getElem?_eq_getElem hjc)
              exact ⟨g1, _, List.getElem?_eq_getElem hjc, g2⟩)
          exact ⟨_, _, .slice (some ⟨h.size, 0, none⟩) (l.length + 1) 0, .slice (some ⟨w.heap.size, 0, none⟩) (l.length + 1) g, Hr.le_add _, G, VR.slice ⟨rfl, hg1, .inl rfl, .inl ⟨rfl, _, Ren.add_self, by simp, by simp only [hs3]; omega⟩⟩, .inl ⟨rfl, post _ rfl⟩⟩
      · omega
    · omega
end Go.Proofs.Ytgfccaaalkkdlaa.Am
end
