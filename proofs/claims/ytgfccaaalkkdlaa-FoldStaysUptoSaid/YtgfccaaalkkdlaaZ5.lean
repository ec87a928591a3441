/- The texts of this seat, one behind another (part 5 of 10): the frame (an abstract machine), the contracts of functions, the laws. -/
import Derived.Test.YtgfccaaalkkdlaaZ4
import Derived.Test.YtgfccaaalkkdlaaAmImp
section
/- Folds stay right: FoldStays answers true. -/
set_option linter.unusedSimpArgs false
set_option linter.unusedVariables false
set_option maxHeartbeats 8000000
set_option maxRecDepth 20000
namespace Go.Proofs.Ytgfccaaalkkdlaa.Am
open Go Go.RowKit Go.Proofs.Try
/-- A deed as it was handed in. -/
structure DeF where
  k : Int
  a : Int
  b : Int
  cl : Bool
  c : Int
  ov : Value
  nv : Value
  os : List Tree
  ns : List Tree
  lo : abuiltin prog .len #[29] #[ov] = some (.int .i64 os.length)
  ln : abuiltin prog .len #[29] #[nv] = some (.int .i64 ns.length)
  oo : one ov = true
  on : one nv = true
def cDe (d : DeF) : List Value := [.int .i64 d.k, .int .i64 d.a, .int .i64 d.b, .bool d.cl, .int .i64 d.c, d.ov, d.nv]
theorem cDe_len : ∀ d, (cDe d).length = 7 := fun _ => rfl
theorem make_nil {l : List F} {a b : Int} (h : ¬ (makeR l a b).2 = 0) : (makeR l a b).1 = [] := by
  unfold makeR at h ⊢; repeat' split
  all_goals first
    | rfl
    | (simp_all; done)
theorem drop_nil {l : List F} {x : Int} (h : ¬ (dropR l x).2 = 0) : (dropR l x).1 = [] := by
  unfold dropR at h ⊢
  split
  · rfl
  · rename_i h0
    rw [if_neg h0] at h
    cases e : inF l x with
    | none => rfl
    | some k => rw [e] at h; exact absurd rfl h
theorem set_nil {l : List F} {x : Int} {c : Bool} (h : ¬ (setR l x c).2 = 0) : (setR l x c).1 = [] := by
  unfold setR at h ⊢
  split
  · rfl
  · rename_i h0
    rw [if_neg h0] at h
    cases e : inF l x with
    | none => rfl
    | some k => rw [e] at h; exact absurd rfl h
theorem adj_bound {c o n m : Int} {l : List F} (hb : ∀ f, f ∈ l → f.to ≤ m) (hc : c ≤ 1073741824) (hm : 1073741824 ≤ m) (ho : 0 ≤ o) (hn : 0 ≤ n ∧ n ≤ 1000) : ∀ f, f ∈ l.filterMap (adjF c o n) → f.to ≤ m + 1000 := fun g hg => by
  obtain ⟨f, hf, hfg⟩ := List.mem_filterMap.1 hg
  have := hb f hf
  have keep : ∀ {x y : Int} {q : Bool}, keepF x y q = some g → g.to = y := fun {x y q} h => by
    unfold keepF at h
    split at h
    · cases h; rfl
    · cases h
  unfold adjF at hfg
  repeat' split at hfg
  all_goals first
    | (cases hfg; done)
    | (have := keep hfg; omega)
theorem near_of {l : List F} {m : Int} (hr : rightB l = true) (hb : ∀ f, f ∈ l → f.to ≤ m) (hm : m ≤ 1099511627776) : nearF l = true := by
  obtain ⟨r1, r2, r3⟩ := rightB_at hr
  simp only [nearF, List.all_eq_true, Bool.and_eq_true, decide_eq_true_eq]
  intro f hf
  obtain ⟨j, hj⟩ := List.mem_iff_getElem?.1 hf
  have := r1 j f hj
  have := hb f hf
  omega
theorem flds_de {h : Heap} {b : Nat} {d : DeF} (V : Var h b (cDe d)) : aload prog h 3 ⟨b, 0, none⟩ = some (.int .i64 d.k) ∧ aload prog h 3 ⟨b, 1, none⟩ = some (.int .i64 d.a) ∧ aload prog h 3 ⟨b, 2, none⟩ = some (.int .i64 d.b) ∧ aload prog h 4 ⟨b, 3, none⟩ = some (.bool d.cl) ∧
    aload prog h 3 ⟨b, 4, none⟩ = some (.int .i64 d.c) ∧ aload prog h 29 ⟨b, 6, none⟩ = some d.nv :=
  ⟨V.load1 underlying3 rfl (i := 0), V.load1 underlying3 rfl (i := 1), V.load1 underlying3 rfl (i := 2), V.load1 underlying4 rfl (i := 3), V.load1 underlying3 rfl (i := 4), V.load1 underlying29 rfl (i := 6)⟩
theorem change_de {h : Heap} {b : Nat} {d : DeF} (V : Var h b (cDe d)) : aload prog h 31 ⟨b, 4, none⟩ = some (chV d.c d.ov d.nv) := by
  obtain ⟨k, h1, h2, h3, _⟩ := V
  simp only [aload, h1, h3, h2, underlying31, asz31]
  simp [cDe, isAggD, chV]
theorem foldStays_law {h : Heap} {v : Value} {ds : List DeF} (R0 : RS prog h 7 cDe v ds) (hl : ds.length ≤ 9223372036854775807) (hos : ∀ d, d ∈ ds → d.os.length ≤ 1000000000) :
    ACalls prog 7 #[v] h (fun y h' => y = .bool true ∧ Keeps h h') := by
  refine acalls_of_W' func7 rfl (by kernel_rfl) (by kernel_rfl) (by simp [ntmps7]) ?_
  intro H
  simp only [wk, wt, wl, ↓reduceIte, Nat.reduceEqDiff, Nat.reduceAdd, Nat.zero_add, not_false_eq_true, not_true_eq_false]
  refine W_loop (fun tm h' => Keeps h h' ∧ tm 0 = v ∧ ∃ i : Nat, tm 4 = .int .i64 i ∧ i ≤ 200 ∧ ∃ (lv : Value) (l : List F), tm 3 = lv ∧ FR h' lv l ∧ rightB l = true ∧ ∀ f, f ∈ l → f.to ≤ 1073741824 + 1000 * (i : Int)) (fun tm _ => (200 - intOf (tm 4)).toNat)
    ⟨Keeps.refl H, (by first | rfl | (simp only [wk, wt, wl, ↓reduceIte, Nat.reduceEqDiff, Nat.reduceAdd, Nat.zero_add, not_false_eq_true, not_true_eq_false]; done) | (simp only [wk, wt, wl, ↓reduceIte, Nat.reduceEqDiff, Nat.reduceAdd, Nat.zero_add, not_false_eq_true, not_true_eq_false]; rfl)), 0, (by first | rfl | (simp only [wk, wt, wl, ↓reduceIte, Nat.reduceEqDiff, Nat.reduceAdd, Nat.zero_add, not_false_eq_true, not_true_eq_false]; done) | (simp only [wk, wt, wl, ↓reduceIte, Nat.reduceEqDiff, Nat.reduceAdd, Nat.zero_add, not_false_eq_true, not_true_eq_false]; rfl)), by omega, .slice none 0 0, [], (by first | rfl | (simp only [wk, wt, wl, ↓reduceIte, Nat.reduceEqDiff, Nat.reduceAdd, Nat.zero_add, not_false_eq_true, not_true_eq_false]; done) | (simp only [wk, wt, wl, ↓reduceIte, Nat.reduceEqDiff, Nat.reduceAdd, Nat.zero_add, not_false_eq_true, not_true_eq_false]; rfl)), Rd.nil0, rfl, fun f hf => by simp at hf⟩ ?_
  rintro tm h' ⟨K, t0, i, t4, hi, lv, l, t3, R, hr, hb⟩
  have RD : RS prog h' 7 cDe v ds := RS.keeps R0 K
  obtain ⟨r1, r2, r3⟩ := rightB_at hr
  have out : ∀ {Q : Prop}, Q → Q := id
  by_cases hin : i < ds.length
  · have c1 : decide ((i : Int) < ds.length) = true := decide_eq_true (by omega)
    by_cases h200 : i < 200
    · have c2 : decide ((i : Int) < 200) = true := decide_eq_true (by omega)
      obtain ⟨d, hx⟩ : ∃ d, ds[i]? = some d := ⟨ds[i], by simp [hin]⟩
      have hdos := hos d (List.mem_of_getElem? hx)
      have FA := RS.agg RD cDe_len (t := 46) underlying46 rfl asz46 hx
      have IX := Rd.index RD underlying44 asz46 (q := .i64) (i := (i : Int)) (by omega) (by omega)
      simp only [Int.toNat_natCast] at IX
      have N1 := Keeps.new (Ch.wf K) 46 [.int .i64 0, .int .i64 0, .int .i64 0, .bool false, .int .i64 0, .slice none 0 0, .slice none 0 0]
      have V1 := Var.new (e := 46) (Ch.wf K) (cs := [.int .i64 0, .int .i64 0, .int .i64 0, .bool false, .int .i64 0, .slice none 0 0, .slice none 0 0])
      obtain ⟨h2, e2, V2, C2, z2⟩ := V1.store (P := prog) (t := 46) (v := .agg (cDe d).toArray) (i := 0) (Ch.wf N1) asz46 (by simp [Value.cells, cDe]) (by
        have o1 : ∀ x : Int, one (.int .i64 x) = true := fun _ => rfl
        have o2 : ∀ x : Bool, one (.bool x) = true := fun _ => rfl
        simp [Value.cells, cDe, o1, o2, d.oo, d.on])
      simp only [Value.cells, over_all (xs := [.int .i64 0, .int .i64 0, .int .i64 0, .bool false, .int .i64 0, .slice none 0 0, .slice none 0 0]) (vs := cDe d) rfl] at V2
      have K2 := N1.step C2 (fun b hb => by omega)
      have R2 : FR h2 lv l := RS.keeps R K2
      have FD := flds_de V2
      simp (disch := omega) only [wk, wt, wl, ↓reduceIte, Nat.reduceEqDiff, Nat.reduceAdd, Nat.zero_add, not_false_eq_true, not_true_eq_false, t0, t3, t4, RD.len underlying44, c1, c2, IX, FA]
      rw [e2]; clear e2
      by_cases k0 : d.k = 0
      · have c0 : decide (d.k = 0) = true := decide_eq_true k0
        simp (disch := omega) only [wk, wt, wl, ↓reduceIte, Nat.reduceEqDiff, Nat.reduceAdd, Nat.zero_add, not_false_eq_true, not_true_eq_false, t0, t3, t4, FD, c0]
        refine (make_ok (a := d.a) (b := d.b) R2 (by omega)).use ?_
        rintro _ h3 ⟨u, rfl, U, K3⟩
        have K23 := K2.trans K3
        have V3 := Keeps.var (Ch.wf K2) K3 V2
        have OK : (makeR l d.a d.b).2 = 0 → rightB (makeR l d.a d.b).1 = true ∧ (d.k = 0 → (makeR l d.a d.b).1.length = l.length + 1) ∧ (d.k = 1 → (makeR l d.a d.b).1.length + 1 = l.length) ∧ ∀ f, f ∈ (makeR l d.a d.b).1 → f.to ≤ 1073741824 + 1000 * (i : Int) := fun e => by
          obtain ⟨q1, q2, q3⟩ := makeR_right e
          refine ⟨q1, fun _ => q2, fun e1 => by omega, fun f hf => ?_⟩
          rcases q3 f hf with h1 | h1
          · exact hb f h1
          · omega
        have FD9 := flds_de V3
        by_cases he : (makeR l d.a d.b).2 = 0
        · obtain ⟨g1, g2, g3, g4⟩ := OK he
          have d1 : decide (¬ (makeR l d.a d.b).2 = 0) = false := decide_eq_false (fun e => e he)
          simp (disch := omega) only [wk, wt, wl, ↓reduceIte, Nat.reduceEqDiff, Nat.reduceAdd, Nat.zero_add, not_false_eq_true, not_true_eq_false, t0, t3, t4, d1]
          have hgl : ((makeR l d.a d.b).1).length ≤ 64 := (rightB_at g1).2.2
          refine (refRight_ok U (by omega)).use_pure ?_
          simp (disch := omega) only [wk, wt, wl, ↓reduceIte, Nat.reduceEqDiff, Nat.reduceAdd, Nat.zero_add, not_false_eq_true, not_true_eq_false, g1, Bool.not_true]
          refine (right_ok U (by omega)).use ?_
          rintro _ h9 ⟨rfl, K9⟩
          have KK := (K23).trans K9
          have V9 := Keeps.var (Ch.wf K23) K9 V3
          have L9 := RS.len (RS.keeps U K9) underlying22
          have L8 := RS.len (RS.keeps R (KK)) underlying22
          have FD := flds_de V9
          have w1 : IntKind.i64.wrap ((l.length : Int) + 1) = (l.length : Int) + 1 := IntWalk.i64_in _ (by omega)
          have w2 : IntKind.i64.wrap ((l.length : Int) - 1) = (l.length : Int) - 1 := IntWalk.i64_in _ (by omega)
          by_cases k0 : d.k = 0
          · have c0 : decide (d.k = 0) = true := decide_eq_true k0
            have c1 : decide (d.k = 1) = false := decide_eq_false (by omega)
            have c2 : decide (¬ ((((makeR l d.a d.b).1).length : Nat) : Int) = (l.length : Int) + 1) = false := decide_eq_false (by have := g2 k0; omega)
            simp (disch := omega) only [wk, wt, wl, ↓reduceIte, Nat.reduceEqDiff, Nat.reduceAdd, Nat.zero_add, not_false_eq_true, not_true_eq_false, t0, t3, t4, g1, Bool.not_true, FD, c0, c1, c2, w1, w2, L9, L8, IntWalk.i64_in, intOf_int]
            exact ⟨⟨K.trans KK, i + 1, by simp, by omega, _, (makeR l d.a d.b).1, rfl, RS.keeps U K9, g1, fun f hf => by have := g4 f hf; omega⟩, by omega⟩
          · have c0 : decide (d.k = 0) = false := decide_eq_false k0
            by_cases k1 : d.k = 1
            · have c1 : decide (d.k = 1) = true := decide_eq_true k1
              have c2 : decide (¬ ((((makeR l d.a d.b).1).length : Nat) : Int) = (l.length : Int) - 1) = false := decide_eq_false (by have := g3 k1; omega)
              simp (disch := omega) only [wk, wt, wl, ↓reduceIte, Nat.reduceEqDiff, Nat.reduceAdd, Nat.zero_add, not_false_eq_true, not_true_eq_false, t0, t3, t4, g1, Bool.not_true, FD, c0, c1, c2, w1, w2, L9, L8, IntWalk.i64_in, intOf_int]
              exact ⟨⟨K.trans KK, i + 1, by simp, by omega, _, (makeR l d.a d.b).1, rfl, RS.keeps U K9, g1, fun f hf => by have := g4 f hf; omega⟩, by omega⟩
            · have c1 : decide (d.k = 1) = false := decide_eq_false k1
              simp (disch := omega) only [wk, wt, wl, ↓reduceIte, Nat.reduceEqDiff, Nat.reduceAdd, Nat.zero_add, not_false_eq_true, not_true_eq_false, t0, t3, t4, g1, Bool.not_true, FD, c0, c1, w1, w2, L9, L8, IntWalk.i64_in, intOf_int]
              exact ⟨⟨K.trans KK, i + 1, by simp, by omega, _, (makeR l d.a d.b).1, rfl, RS.keeps U K9, g1, fun f hf => by have := g4 f hf; omega⟩, by omega⟩
        · have hnil : (makeR l d.a d.b).1 = [] := make_nil he
          have d1 : decide (¬ (makeR l d.a d.b).2 = 0) = true := decide_eq_true he
          have L9 := RS.len U underlying22
          rw [hnil] at L9
          have z0 : decide ((0 : Int) < ((([] : List F).length : Nat) : Int)) = false := by decide
          simp (disch := omega) only [wk, wt, wl, ↓reduceIte, Nat.reduceEqDiff, Nat.reduceAdd, Nat.zero_add, not_false_eq_true, not_true_eq_false, t0, t3, t4, d1, L9, z0, IntWalk.i64_in, intOf_int]
          exact ⟨⟨K.trans K23, i + 1, by simp, by omega, lv, l, rfl, RS.keeps R K23, hr, fun f hf => by have := hb f hf; omega⟩, by omega⟩
      · have c0 : decide (d.k = 0) = false := decide_eq_false k0
        by_cases k1 : d.k = 1
        · have c1' : decide (d.k = 1) = true := decide_eq_true k1
          simp (disch := omega) only [wk, wt, wl, ↓reduceIte, Nat.reduceEqDiff, Nat.reduceAdd, Nat.zero_add, not_false_eq_true, not_true_eq_false, t0, t3, t4, FD, c0, c1']
          refine (drop_ok (x := d.a) R2 (by omega)).use ?_
          rintro _ h3 ⟨u, rfl, U, K3⟩
          have K23 := K2.trans K3
          have V3 := Keeps.var (Ch.wf K2) K3 V2
          have OK : (dropR l d.a).2 = 0 → rightB (dropR l d.a).1 = true ∧ (d.k = 0 → (dropR l d.a).1.length = l.length + 1) ∧ (d.k = 1 → (dropR l d.a).1.length + 1 = l.length) ∧ ∀ f, f ∈ (dropR l d.a).1 → f.to ≤ 1073741824 + 1000 * (i : Int) := fun e => by
            obtain ⟨q1, q2, q3⟩ := dropR_right e
            exact ⟨q1, fun e1 => by omega, fun _ => q2, fun f hf => hb f (q3 f hf)⟩
          have FD9 := flds_de V3
          by_cases he : (dropR l d.a).2 = 0
          · obtain ⟨g1, g2, g3, g4⟩ := OK he
            have d1 : decide (¬ (dropR l d.a).2 = 0) = false := decide_eq_false (fun e => e he)
            simp (disch := omega) only [wk, wt, wl, ↓reduceIte, Nat.reduceEqDiff, Nat.reduceAdd, Nat.zero_add, not_false_eq_true, not_true_eq_false, t0, t3, t4, d1]
            have hgl : ((dropR l d.a).1).length ≤ 64 := (rightB_at g1).2.2
            refine (refRight_ok U (by omega)).use_pure ?_
            simp (disch := omega) only [wk, wt, wl, ↓reduceIte, Nat.reduceEqDiff, Nat.reduceAdd, Nat.zero_add, not_false_eq_true, not_true_eq_false, g1, Bool.not_true]
            refine (right_ok U (by omega)).use ?_
            rintro _ h9 ⟨rfl, K9⟩
            have KK := (K23).trans K9
            have V9 := Keeps.var (Ch.wf K23) K9 V3
            have L9 := RS.len (RS.keeps U K9) underlying22
            have L8 := RS.len (RS.keeps R (KK)) underlying22
            have FD := flds_de V9
            have w1 : IntKind.i64.wrap ((l.length : Int) + 1) = (l.length : Int) + 1 := IntWalk.i64_in _ (by omega)
            have w2 : IntKind.i64.wrap ((l.length : Int) - 1) = (l.length : Int) - 1 := IntWalk.i64_in _ (by omega)
            by_cases k0 : d.k = 0
            · have c0 : decide (d.k = 0) = true := decide_eq_true k0
              have c1 : decide (d.k = 1) = false := decide_eq_false (by omega)
              have c2 : decide (¬ ((((dropR l d.a).1).length : Nat) : Int) = (l.length : Int) + 1) = false := decide_eq_false (by have := g2 k0; omega)
              simp (disch := omega) only [wk, wt, wl, ↓reduceIte, Nat.reduceEqDiff, Nat.reduceAdd, Nat.zero_add, not_false_eq_true, not_true_eq_false, t0, t3, t4, g1, Bool.not_true, FD, c0, c1, c2, w1, w2, L9, L8, IntWalk.i64_in, intOf_int]
              exact ⟨⟨K.trans KK, i + 1, by simp, by omega, _, (dropR l d.a).1, rfl, RS.keeps U K9, g1, fun f hf => by have := g4 f hf; omega⟩, by omega⟩
            · have c0 : decide (d.k = 0) = false := decide_eq_false k0
              by_cases k1 : d.k = 1
              · have c1 : decide (d.k = 1) = true := decide_eq_true k1
                have c2 : decide (¬ ((((dropR l d.a).1).length : Nat) : Int) = (l.length : Int) - 1) = false := decide_eq_false (by have := g3 k1; omega)
                simp (disch := omega) only [wk, wt, wl, ↓reduceIte, Nat.reduceEqDiff, Nat.reduceAdd, Nat.zero_add, not_false_eq_true, not_true_eq_false, t0, t3, t4, g1, Bool.not_true, FD, c0, c1, c2, w1, w2, L9, L8, IntWalk.i64_in, intOf_int]
                exact ⟨⟨K.trans KK, i + 1, by simp, by omega, _, (dropR l d.a).1, rfl, RS.keeps U K9, g1, fun f hf => by have := g4 f hf; omega⟩, by omega⟩
              · have c1 : decide (d.k = 1) = false := decide_eq_false k1
                simp (disch := omega) only [wk, wt, wl, ↓reduceIte, Nat.reduceEqDiff, Nat.reduceAdd, Nat.zero_add, not_false_eq_true, not_true_eq_false, t0, t3, t4, g1, Bool.not_true, FD, c0, c1, w1, w2, L9, L8, IntWalk.i64_in, intOf_int]
                exact ⟨⟨K.trans KK, i + 1, by simp, by omega, _, (dropR l d.a).1, rfl, RS.keeps U K9, g1, fun f hf => by have := g4 f hf; omega⟩, by omega⟩
          · have hnil : (dropR l d.a).1 = [] := drop_nil he
            have d1 : decide (¬ (dropR l d.a).2 = 0) = true := decide_eq_true he
            have L9 := RS.len U underlying22
            rw [hnil] at L9
            have z0 : decide ((0 : Int) < ((([] : List F).length : Nat) : Int)) = false := by decide
            simp (disch := omega) only [wk, wt, wl, ↓reduceIte, Nat.reduceEqDiff, Nat.reduceAdd, Nat.zero_add, not_false_eq_true, not_true_eq_false, t0, t3, t4, d1, L9, z0, IntWalk.i64_in, intOf_int]
            exact ⟨⟨K.trans K23, i + 1, by simp, by omega, lv, l, rfl, RS.keeps R K23, hr, fun f hf => by have := hb f hf; omega⟩, by omega⟩
        · have c1' : decide (d.k = 1) = false := decide_eq_false k1
          by_cases k2 : d.k = 2
          · have c2' : decide (d.k = 2) = true := decide_eq_true k2
            simp (disch := omega) only [wk, wt, wl, ↓reduceIte, Nat.reduceEqDiff, Nat.reduceAdd, Nat.zero_add, not_false_eq_true, not_true_eq_false, t0, t3, t4, FD, c0, c1', c2']
            refine (set_ok (x := d.a) (c := d.cl) R2 (by omega)).use ?_
            rintro _ h3 ⟨u, rfl, U, K3⟩
            have K23 := K2.trans K3
            have V3 := Keeps.var (Ch.wf K2) K3 V2
            have OK : (setR l d.a d.cl).2 = 0 → rightB (setR l d.a d.cl).1 = true ∧ (d.k = 0 → (setR l d.a d.cl).1.length = l.length + 1) ∧ (d.k = 1 → (setR l d.a d.cl).1.length + 1 = l.length) ∧ ∀ f, f ∈ (setR l d.a d.cl).1 → f.to ≤ 1073741824 + 1000 * (i : Int) := fun e => by
              obtain ⟨q1, q2, q3⟩ := setR_right e
              refine ⟨q1, fun e1 => by omega, fun e1 => by omega, fun f hf => ?_⟩
              obtain ⟨g, hg, e3⟩ := q3 f hf
              rw [e3]; exact hb g hg
            have FD9 := flds_de V3
            by_cases he : (setR l d.a d.cl).2 = 0
            · obtain ⟨g1, g2, g3, g4⟩ := OK he
              have d1 : decide (¬ (setR l d.a d.cl).2 = 0) = false := decide_eq_false (fun e => e he)
              simp (disch := omega) only [wk, wt, wl, ↓reduceIte, Nat.reduceEqDiff, Nat.reduceAdd, Nat.zero_add, not_false_eq_true, not_true_eq_false, t0, t3, t4, d1]
              have hgl : ((setR l d.a d.cl).1).length ≤ 64 := (rightB_at g1).2.2
              refine (refRight_ok U (by omega)).use_pure ?_
              simp (disch := omega) only [wk, wt, wl, ↓reduceIte, Nat.reduceEqDiff, Nat.reduceAdd, Nat.zero_add, not_false_eq_true, not_true_eq_false, g1, Bool.not_true]
              refine (right_ok U (by omega)).use ?_
              rintro _ h9 ⟨rfl, K9⟩
              have KK := (K23).trans K9
              have V9 := Keeps.var (Ch.wf K23) K9 V3
              have L9 := RS.len (RS.keeps U K9) underlying22
              have L8 := RS.len (RS.keeps R (KK)) underlying22
              have FD := flds_de V9
              have w1 : IntKind.i64.wrap ((l.length : Int) + 1) = (l.length : Int) + 1 := IntWalk.i64_in _ (by omega)
              have w2 : IntKind.i64.wrap ((l.length : Int) - 1) = (l.length : Int) - 1 := IntWalk.i64_in _ (by omega)
              by_cases k0 : d.k = 0
              · have c0 : decide (d.k = 0) = true := decide_eq_true k0
                have c1 : decide (d.k = 1) = false := decide_eq_false (by omega)
                have c2 : decide (¬ ((((setR l d.a d.cl).1).length : Nat) : Int) = (l.length : Int) + 1) = false := decide_eq_false (by have := g2 k0; omega)
                simp (disch := omega) only [wk, wt, wl, ↓reduceIte, Nat.reduceEqDiff, Nat.reduceAdd, Nat.zero_add, not_false_eq_true, not_true_eq_false, t0, t3, t4, g1, Bool.not_true, FD, c0, c1, c2, w1, w2, L9, L8, IntWalk.i64_in, intOf_int]
                exact ⟨⟨K.trans KK, i + 1, by simp, by omega, _, (setR l d.a d.cl).1, rfl, RS.keeps U K9, g1, fun f hf => by have := g4 f hf; omega⟩, by omega⟩
              · have c0 : decide (d.k = 0) = false := decide_eq_false k0
                by_cases k1 : d.k = 1
                · have c1 : decide (d.k = 1) = true := decide_eq_true k1
                  have c2 : decide (¬ ((((setR l d.a d.cl).1).length : Nat) : Int) = (l.length : Int) - 1) = false := decide_eq_false (by have := g3 k1; omega)
                  simp (disch := omega) only [wk, wt, wl, ↓reduceIte, Nat.reduceEqDiff, Nat.reduceAdd, Nat.zero_add, not_false_eq_true, not_true_eq_false, t0, t3, t4, g1, Bool.not_true, FD, c0, c1, c2, w1, w2, L9, L8, IntWalk.i64_in, intOf_int]
                  exact ⟨⟨K.trans KK, i + 1, by simp, by omega, _, (setR l d.a d.cl).1, rfl, RS.keeps U K9, g1, fun f hf => by have := g4 f hf; omega⟩, by omega⟩
                · have c1 : decide (d.k = 1) = false := decide_eq_false k1
                  simp (disch := omega) only [wk, wt, wl, ↓reduceIte, Nat.reduceEqDiff, Nat.reduceAdd, Nat.zero_add, not_false_eq_true, not_true_eq_false, t0, t3, t4, g1, Bool.not_true, FD, c0, c1, w1, w2, L9, L8, IntWalk.i64_in, intOf_int]
                  exact ⟨⟨K.trans KK, i + 1, by simp, by omega, _, (setR l d.a d.cl).1, rfl, RS.keeps U K9, g1, fun f hf => by have := g4 f hf; omega⟩, by omega⟩
            · have hnil : (setR l d.a d.cl).1 = [] := set_nil he
              have d1 : decide (¬ (setR l d.a d.cl).2 = 0) = true := decide_eq_true he
              have L9 := RS.len U underlying22
              rw [hnil] at L9
              have z0 : decide ((0 : Int) < ((([] : List F).length : Nat) : Int)) = false := by decide
              simp (disch := omega) only [wk, wt, wl, ↓reduceIte, Nat.reduceEqDiff, Nat.reduceAdd, Nat.zero_add, not_false_eq_true, not_true_eq_false, t0, t3, t4, d1, L9, z0, IntWalk.i64_in, intOf_int]
              exact ⟨⟨K.trans K23, i + 1, by simp, by omega, lv, l, rfl, RS.keeps R K23, hr, fun f hf => by have := hb f hf; omega⟩, by omega⟩
          · have c2' : decide (d.k = 2) = false := decide_eq_false k2
            have same : (0 : Int) = 0 → rightB l = true ∧ (d.k = 0 → l.length = l.length + 1) ∧ (d.k = 1 → l.length + 1 = l.length) ∧ ∀ f, f ∈ l → f.to ≤ 1073741824 + 1000 * (i : Int) := fun _ => ⟨hr, fun e1 => by omega, fun e1 => by omega, hb⟩
            by_cases a0 : 0 ≤ d.c
            · have e0 : decide (0 ≤ d.c) = true := decide_eq_true a0
              by_cases a1 : d.c ≤ 1073741824
              · have e1 : decide (d.c ≤ 1073741824) = true := decide_eq_true a1
                by_cases a2 : d.ns.length ≤ 1000
                · have e3 : decide (((d.ns.length : Nat) : Int) ≤ 1000) = true := decide_eq_true (by omega)
                  simp (disch := omega) only [wk, wt, wl, ↓reduceIte, Nat.reduceEqDiff, Nat.reduceAdd, Nat.zero_add, not_false_eq_true, not_true_eq_false, t0, t3, t4, FD, c0, c1', c2', e0, e1, d.ln, e3, change_de V2]
                  refine (adjust_ok (c := d.c) R2 hr (near_of hr hb (by omega)) (by omega) hdos (by omega) d.lo d.ln d.oo d.on).use ?_
                  rintro u h3 ⟨U, K3⟩
                  have K23 := K2.trans K3
                  have V3 := Keeps.var (Ch.wf K2) K3 V2
                  have OK : (0 : Int) = 0 → rightB (l.filterMap (adjF d.c (d.os.length : Nat) (d.ns.length : Nat))) = true ∧ (d.k = 0 → (l.filterMap (adjF d.c (d.os.length : Nat) (d.ns.length : Nat))).length = l.length + 1) ∧ (d.k = 1 → (l.filterMap (adjF d.c (d.os.length : Nat) (d.ns.length : Nat))).length + 1 = l.length) ∧ ∀ f, f ∈ (l.filterMap (adjF d.c (d.os.length : Nat) (d.ns.length : Nat))) → f.to ≤ 1073741824 + 1000 * (i : Int) + 1000 := fun _ =>
                    ⟨adj_right a0 (by omega) (by omega) hr, fun e1 => by omega, fun e1 => by omega, adj_bound hb a1 (by omega) (by omega) (by omega)⟩
                  have FD9 := flds_de V3
                  by_cases he : (0 : Int) = 0
                  · obtain ⟨g1, g2, g3, g4⟩ := OK he
                    have d1 : decide (¬ (0 : Int) = 0) = false := decide_eq_false (fun e => e he)
                    try (simp (disch := omega) only [wk, wt, wl, ↓reduceIte, Nat.reduceEqDiff, Nat.reduceAdd, Nat.zero_add, not_false_eq_true, not_true_eq_false, t0, t3, t4, d1])
                    have hgl : ((l.filterMap (adjF d.c (d.os.length : Nat) (d.ns.length : Nat)))).length ≤ 64 := (rightB_at g1).2.2
                    refine (refRight_ok U (by omega)).use_pure ?_
                    simp (disch := omega) only [wk, wt, wl, ↓reduceIte, Nat.reduceEqDiff, Nat.reduceAdd, Nat.zero_add, not_false_eq_true, not_true_eq_false, g1, Bool.not_true]
                    refine (right_ok U (by omega)).use ?_
                    rintro _ h9 ⟨rfl, K9⟩
                    have KK := (K23).trans K9
                    have V9 := Keeps.var (Ch.wf K23) K9 V3
                    have L9 := RS.len (RS.keeps U K9) underlying22
                    have L8 := RS.len (RS.keeps R (KK)) underlying22
                    have FD := flds_de V9
                    have w1 : IntKind.i64.wrap ((l.length : Int) + 1) = (l.length : Int) + 1 := IntWalk.i64_in _ (by omega)
                    have w2 : IntKind.i64.wrap ((l.length : Int) - 1) = (l.length : Int) - 1 := IntWalk.i64_in _ (by omega)
                    by_cases k0 : d.k = 0
                    · have c0 : decide (d.k = 0) = true := decide_eq_true k0
                      have c1 : decide (d.k = 1) = false := decide_eq_false (by omega)
                      have c2 : decide (¬ ((((l.filterMap (adjF d.c (d.os.length : Nat) (d.ns.length : Nat)))).length : Nat) : Int) = (l.length : Int) + 1) = false := decide_eq_false (by have := g2 k0; omega)
                      simp (disch := omega) only [wk, wt, wl, ↓reduceIte, Nat.reduceEqDiff, Nat.reduceAdd, Nat.zero_add, not_false_eq_true, not_true_eq_false, t0, t3, t4, g1, Bool.not_true, FD, c0, c1, c2, w1, w2, L9, L8, IntWalk.i64_in, intOf_int]
                      exact ⟨⟨K.trans KK, i + 1, by simp, by omega, _, (l.filterMap (adjF d.c (d.os.length : Nat) (d.ns.length : Nat))), rfl, RS.keeps U K9, g1, fun f hf => by have := g4 f hf; omega⟩, by omega⟩
                    · have c0 : decide (d.k = 0) = false := decide_eq_false k0
                      by_cases k1 : d.k = 1
                      · have c1 : decide (d.k = 1) = true := decide_eq_true k1
                        have c2 : decide (¬ ((((l.filterMap (adjF d.c (d.os.length : Nat) (d.ns.length : Nat)))).length : Nat) : Int) = (l.length : Int) - 1) = false := decide_eq_false (by have := g3 k1; omega)
                        simp (disch := omega) only [wk, wt, wl, ↓reduceIte, Nat.reduceEqDiff, Nat.reduceAdd, Nat.zero_add, not_false_eq_true, not_true_eq_false, t0, t3, t4, g1, Bool.not_true, FD, c0, c1, c2, w1, w2, L9, L8, IntWalk.i64_in, intOf_int]
                        exact ⟨⟨K.trans KK, i + 1, by simp, by omega, _, (l.filterMap (adjF d.c (d.os.length : Nat) (d.ns.length : Nat))), rfl, RS.keeps U K9, g1, fun f hf => by have := g4 f hf; omega⟩, by omega⟩
                      · have c1 : decide (d.k = 1) = false := decide_eq_false k1
                        simp (disch := omega) only [wk, wt, wl, ↓reduceIte, Nat.reduceEqDiff, Nat.reduceAdd, Nat.zero_add, not_false_eq_true, not_true_eq_false, t0, t3, t4, g1, Bool.not_true, FD, c0, c1, w1, w2, L9, L8, IntWalk.i64_in, intOf_int]
                        exact ⟨⟨K.trans KK, i + 1, by simp, by omega, _, (l.filterMap (adjF d.c (d.os.length : Nat) (d.ns.length : Nat))), rfl, RS.keeps U K9, g1, fun f hf => by have := g4 f hf; omega⟩, by omega⟩
                  · exact absurd rfl he
                · have e3 : decide (((d.ns.length : Nat) : Int) ≤ 1000) = false := decide_eq_false (by omega)
                  simp (disch := omega) only [wk, wt, wl, ↓reduceIte, Nat.reduceEqDiff, Nat.reduceAdd, Nat.zero_add, not_false_eq_true, not_true_eq_false, t0, t3, t4, FD, c0, c1', c2', e0, e1, d.ln, e3]
                  have FD9 := flds_de V2
                  by_cases he : (0 : Int) = 0
                  · obtain ⟨g1, g2, g3, g4⟩ := same he
                    have d1 : decide (¬ (0 : Int) = 0) = false := decide_eq_false (fun e => e he)
                    try (simp (disch := omega) only [wk, wt, wl, ↓reduceIte, Nat.reduceEqDiff, Nat.reduceAdd, Nat.zero_add, not_false_eq_true, not_true_eq_false, t0, t3, t4, d1])
                    have hgl : (l).length ≤ 64 := (rightB_at g1).2.2
                    refine (refRight_ok R2 (by omega)).use_pure ?_
                    simp (disch := omega) only [wk, wt, wl, ↓reduceIte, Nat.reduceEqDiff, Nat.reduceAdd, Nat.zero_add, not_false_eq_true, not_true_eq_false, g1, Bool.not_true]
                    refine (right_ok R2 (by omega)).use ?_
                    rintro _ h9 ⟨rfl, K9⟩
                    have KK := (K2).trans K9
                    have V9 := Keeps.var (Ch.wf K2) K9 V2
                    have L9 := RS.len (RS.keeps R2 K9) underlying22
                    have L8 := RS.len (RS.keeps R (KK)) underlying22
                    have FD := flds_de V9
                    have w1 : IntKind.i64.wrap ((l.length : Int) + 1) = (l.length : Int) + 1 := IntWalk.i64_in _ (by omega)
                    have w2 : IntKind.i64.wrap ((l.length : Int) - 1) = (l.length : Int) - 1 := IntWalk.i64_in _ (by omega)
                    by_cases k0 : d.k = 0
                    · have c0 : decide (d.k = 0) = true := decide_eq_true k0
                      have c1 : decide (d.k = 1) = false := decide_eq_false (by omega)
                      have c2 : decide (¬ (((l).length : Nat) : Int) = (l.length : Int) + 1) = false := decide_eq_false (by have := g2 k0; omega)
                      simp (disch := omega) only [wk, wt, wl, ↓reduceIte, Nat.reduceEqDiff, Nat.reduceAdd, Nat.zero_add, not_false_eq_true, not_true_eq_false, t0, t3, t4, g1, Bool.not_true, FD, c0, c1, c2, w1, w2, L9, L8, IntWalk.i64_in, intOf_int]
                      exact ⟨⟨K.trans KK, i + 1, by simp, by omega, _, l, rfl, RS.keeps R2 K9, g1, fun f hf => by have := g4 f hf; omega⟩, by omega⟩
                    · have c0 : decide (d.k = 0) = false := decide_eq_false k0
                      by_cases k1 : d.k = 1
                      · have c1 : decide (d.k = 1) = true := decide_eq_true k1
                        have c2 : decide (¬ (((l).length : Nat) : Int) = (l.length : Int) - 1) = false := decide_eq_false (by have := g3 k1; omega)
                        simp (disch := omega) only [wk, wt, wl, ↓reduceIte, Nat.reduceEqDiff, Nat.reduceAdd, Nat.zero_add, not_false_eq_true, not_true_eq_false, t0, t3, t4, g1, Bool.not_true, FD, c0, c1, c2, w1, w2, L9, L8, IntWalk.i64_in, intOf_int]
                        exact ⟨⟨K.trans KK, i + 1, by simp, by omega, _, l, rfl, RS.keeps R2 K9, g1, fun f hf => by have := g4 f hf; omega⟩, by omega⟩
                      · have c1 : decide (d.k = 1) = false := decide_eq_false k1
                        simp (disch := omega) only [wk, wt, wl, ↓reduceIte, Nat.reduceEqDiff, Nat.reduceAdd, Nat.zero_add, not_false_eq_true, not_true_eq_false, t0, t3, t4, g1, Bool.not_true, FD, c0, c1, w1, w2, L9, L8, IntWalk.i64_in, intOf_int]
                        exact ⟨⟨K.trans KK, i + 1, by simp, by omega, _, l, rfl, RS.keeps R2 K9, g1, fun f hf => by have := g4 f hf; omega⟩, by omega⟩
                  · exact absurd rfl he
              · have e1 : decide (d.c ≤ 1073741824) = false := decide_eq_false a1
                simp (disch := omega) only [wk, wt, wl, ↓reduceIte, Nat.reduceEqDiff, Nat.reduceAdd, Nat.zero_add, not_false_eq_true, not_true_eq_false, t0, t3, t4, FD, c0, c1', c2', e0, e1]
                have FD9 := flds_de V2
                by_cases he : (0 : Int) = 0
                · obtain ⟨g1, g2, g3, g4⟩ := same he
                  have d1 : decide (¬ (0 : Int) = 0) = false := decide_eq_false (fun e => e he)
                  try (simp (disch := omega) only [wk, wt, wl, ↓reduceIte, Nat.reduceEqDiff, Nat.reduceAdd, Nat.zero_add, not_false_eq_true, not_true_eq_false, t0, t3, t4, d1])
                  have hgl : (l).length ≤ 64 := (rightB_at g1).2.2
                  refine (refRight_ok R2 (by omega)).use_pure ?_
                  simp (disch := omega) only [wk, wt, wl, ↓reduceIte, Nat.reduceEqDiff, Nat.reduceAdd, Nat.zero_add, not_false_eq_true, not_true_eq_false, g1, Bool.not_true]
                  refine (right_ok R2 (by omega)).use ?_
                  rintro _ h9 ⟨rfl, K9⟩
                  have KK := (K2).trans K9
                  have V9 := Keeps.var (Ch.wf K2) K9 V2
                  have L9 := RS.len (RS.keeps R2 K9) underlying22
                  have L8 := RS.len (RS.keeps R (KK)) underlying22
                  have FD := flds_de V9
                  have w1 : IntKind.i64.wrap ((l.length : Int) + 1) = (l.length : Int) + 1 := IntWalk.i64_in _ (by omega)
                  have w2 : IntKind.i64.wrap ((l.length : Int) - 1) = (l.length : Int) - 1 := IntWalk.i64_in _ (by omega)
                  by_cases k0 : d.k = 0
                  · have c0 : decide (d.k = 0) = true := decide_eq_true k0
                    have c1 : decide (d.k = 1) = false := decide_eq_false (by omega)
                    have c2 : decide (¬ (((l).length : Nat) : Int) = (l.length : Int) + 1) = false := decide_eq_false (by have := g2 k0; omega)
                    simp (disch := omega) only [wk, wt, wl, ↓reduceIte, Nat.reduceEqDiff, Nat.reduceAdd, Nat.zero_add, not_false_eq_true, not_true_eq_false, t0, t3, t4, g1, Bool.not_true, FD, c0, c1, c2, w1, w2, L9, L8, IntWalk.i64_in, intOf_int]
                    exact ⟨⟨K.trans KK, i + 1, by simp, by omega, _, l, rfl, RS.keeps R2 K9, g1, fun f hf => by have := g4 f hf; omega⟩, by omega⟩
                  · have c0 : decide (d.k = 0) = false := decide_eq_false k0
                    by_cases k1 : d.k = 1
                    · have c1 : decide (d.k = 1) = true := decide_eq_true k1
                      have c2 : decide (¬ (((l).length : Nat) : Int) = (l.length : Int) - 1) = false := decide_eq_false (by have := g3 k1; omega)
                      simp (disch := omega) only [wk, wt, wl, ↓reduceIte, Nat.reduceEqDiff, Nat.reduceAdd, Nat.zero_add, not_false_eq_true, not_true_eq_false, t0, t3, t4, g1, Bool.not_true, FD, c0, c1, c2, w1, w2, L9, L8, IntWalk.i64_in, intOf_int]
                      exact ⟨⟨K.trans KK, i + 1, by simp, by omega, _, l, rfl, RS.keeps R2 K9, g1, fun f hf => by have := g4 f hf; omega⟩, by omega⟩
                    · have c1 : decide (d.k = 1) = false := decide_eq_false k1
                      simp (disch := omega) only [wk, wt, wl, ↓reduceIte, Nat.reduceEqDiff, Nat.reduceAdd, Nat.zero_add, not_false_eq_true, not_true_eq_false, t0, t3, t4, g1, Bool.not_true, FD, c0, c1, w1, w2, L9, L8, IntWalk.i64_in, intOf_int]
                      exact ⟨⟨K.trans KK, i + 1, by simp, by omega, _, l, rfl, RS.keeps R2 K9, g1, fun f hf => by have := g4 f hf; omega⟩, by omega⟩
                · exact absurd rfl he
            · have e0 : decide (0 ≤ d.c) = false := decide_eq_false a0
              simp (disch := omega) only [wk, wt, wl, ↓reduceIte, Nat.reduceEqDiff, Nat.reduceAdd, Nat.zero_add, not_false_eq_true, not_true_eq_false, t0, t3, t4, FD, c0, c1', c2', e0]
              have FD9 := flds_de V2
              by_cases he : (0 : Int) = 0
              · obtain ⟨g1, g2, g3, g4⟩ := same he
                have d1 : decide (¬ (0 : Int) = 0) = false := decide_eq_false (fun e => e he)
                try (simp (disch := omega) only [wk, wt, wl, ↓reduceIte, Nat.reduceEqDiff, Nat.reduceAdd, Nat.zero_add, not_false_eq_true, not_true_eq_false, t0, t3, t4, d1])
                have hgl : (l).length ≤ 64 := (rightB_at g1).2.2
                refine (refRight_ok R2 (by omega)).use_pure ?_
                simp (disch := omega) only [wk, wt, wl, ↓reduceIte, Nat.reduceEqDiff, Nat.reduceAdd, Nat.zero_add, not_false_eq_true, not_true_eq_false, g1, Bool.not_true]
                refine (right_ok R2 (by omega)).use ?_
                rintro _ h9 ⟨rfl, K9⟩
                have KK := (K2).trans K9
                have V9 := Keeps.var (Ch.wf K2) K9 V2
                have L9 := RS.len (RS.keeps R2 K9) underlying22
                have L8 := RS.len (RS.keeps R (KK)) underlying22
                have FD := flds_de V9
                have w1 : IntKind.i64.wrap ((l.length : Int) + 1) = (l.length : Int) + 1 := IntWalk.i64_in _ (by omega)
                have w2 : IntKind.i64.wrap ((l.length : Int) - 1) = (l.length : Int) - 1 := IntWalk.i64_in _ (by omega)
                by_cases k0 : d.k = 0
                · have c0 : decide (d.k = 0) = true := decide_eq_true k0
                  have c1 : decide (d.k = 1) = false := decide_eq_false (by omega)
                  have c2 : decide (¬ (((l).length : Nat) : Int) = (l.length : Int) + 1) = false := decide_eq_false (by have := g2 k0; omega)
                  simp (disch := omega) only [wk, wt, wl, ↓reduceIte, Nat.reduceEqDiff, Nat.reduceAdd, Nat.zero_add, not_false_eq_true, not_true_eq_false, t0, t3, t4, g1, Bool.not_true, FD, c0, c1, c2, w1, w2, L9, L8, IntWalk.i64_in, intOf_int]
                  exact ⟨⟨K.trans KK, i + 1, by simp, by omega, _, l, rfl, RS.keeps R2 K9, g1, fun f hf => by have := g4 f hf; omega⟩, by omega⟩
                · have c0 : decide (d.k = 0) = false := decide_eq_false k0
                  by_cases k1 : d.k = 1
                  · have c1 : decide (d.k = 1) = true := decide_eq_true k1
                    have c2 : decide (¬ (((l).length : Nat) : Int) = (l.length : Int) - 1) = false := decide_eq_false (by have := g3 k1; omega)
                    simp (disch := omega) only [wk, wt, wl, ↓reduceIte, Nat.reduceEqDiff, Nat.reduceAdd, Nat.zero_add, not_false_eq_true, not_true_eq_false, t0, t3, t4, g1, Bool.not_true, FD, c0, c1, c2, w1, w2, L9, L8, IntWalk.i64_in, intOf_int]
                    exact ⟨⟨K.trans KK, i + 1, by simp, by omega, _, l, rfl, RS.keeps R2 K9, g1, fun f hf => by have := g4 f hf; omega⟩, by omega⟩
                  · have c1 : decide (d.k = 1) = false := decide_eq_false k1
                    simp (disch := omega) only [wk, wt, wl, ↓reduceIte, Nat.reduceEqDiff, Nat.reduceAdd, Nat.zero_add, not_false_eq_true, not_true_eq_false, t0, t3, t4, g1, Bool.not_true, FD, c0, c1, w1, w2, L9, L8, IntWalk.i64_in, intOf_int]
                    exact ⟨⟨K.trans KK, i + 1, by simp, by omega, _, l, rfl, RS.keeps R2 K9, g1, fun f hf => by have := g4 f hf; omega⟩, by omega⟩
              · exact absurd rfl he
    · have c2 : decide ((i : Int) < 200) = false := decide_eq_false (by omega)
      simp (disch := omega) only [wk, wt, wl, ↓reduceIte, Nat.reduceEqDiff, Nat.reduceAdd, Nat.zero_add, not_false_eq_true, not_true_eq_false, t0, t3, t4, RD.len underlying44, c1, c2]
      refine awake_ok.use ?_
      rintro _ h9 ⟨rfl, K9⟩
      simp only [wk, wt, wl, ↓reduceIte, Nat.reduceEqDiff, Nat.reduceAdd, Nat.zero_add, not_false_eq_true, not_true_eq_false]
      exact K.trans K9
  · have c1 : decide ((i : Int) < ds.length) = false := decide_eq_false (by omega)
    simp (disch := omega) only [wk, wt, wl, ↓reduceIte, Nat.reduceEqDiff, Nat.reduceAdd, Nat.zero_add, not_false_eq_true, not_true_eq_false, t0, t3, t4, RD.len underlying44, c1]
    refine awake_ok.use ?_
    rintro _ h9 ⟨rfl, K9⟩
    simp only [wk, wt, wl, ↓reduceIte, Nat.reduceEqDiff, Nat.reduceAdd, Nat.zero_add, not_false_eq_true, not_true_eq_false]
    exact K.trans K9
end Go.Proofs.Ytgfccaaalkkdlaa.Am
end
