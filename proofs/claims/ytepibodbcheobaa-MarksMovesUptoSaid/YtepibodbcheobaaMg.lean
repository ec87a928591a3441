/- Marks: the contract of chapter 6's examples (awake), by a walk. -/
import Derived.Test.YtepibodbcheobaaMf
set_option linter.unusedSimpArgs false
set_option linter.unusedVariables false
set_option maxHeartbeats 4000000
set_option maxRecDepth 20000
namespace Go.Proofs.Ytepibodbcheobaa.Am
open Go Go.RowKit Go.Proofs.Try
theorem pushA : pushS [] 0 1 0 = ([(1, 0)], 1) := by kernel_rfl
theorem pushB : pushS [(1, 0)] 1 7 3 = ([(1, 0), (7, 3)], 2) := by kernel_rfl
theorem backA : backV [(1, 0), (7, 3)] 2 9 0 = moveV ((7, 3), true) := by kernel_rfl
theorem backA2 : (backS [(1, 0), (7, 3)] 2 9 0).1 = [(1, 0), (7, 3), (9, 0)] := by kernel_rfl
theorem backA3 : backI [(1, 0), (7, 3)] 2 9 0 = 1 := by kernel_rfl
theorem backB : backV [(1, 0), (7, 3), (9, 0)] 1 9 0 = moveV ((1, 0), true) := by kernel_rfl
theorem backB2 : (backS [(1, 0), (7, 3), (9, 0)] 1 9 0).1 = [(1, 0), (7, 3), (9, 0)] := by kernel_rfl
theorem backB3 : backI [(1, 0), (7, 3), (9, 0)] 1 9 0 = 0 := by kernel_rfl
theorem backC : backV [(1, 0), (7, 3), (9, 0)] 0 9 0 = moveV ((0, 0), false) := by kernel_rfl
theorem backC2 : (backS [(1, 0), (7, 3), (9, 0)] 0 9 0).1 = [(1, 0), (7, 3), (9, 0)] := by kernel_rfl
theorem backC3 : backI [(1, 0), (7, 3), (9, 0)] 0 9 0 = 0 := by kernel_rfl
theorem forthA : forthV [(1, 0), (7, 3), (9, 0)] 0 = moveV ((7, 3), true) := by kernel_rfl
theorem forthA3 : forthI [(1, 0), (7, 3), (9, 0)] 0 = 1 := by kernel_rfl
theorem forthB : forthV [(1, 0), (7, 3), (9, 0)] 1 = moveV ((9, 0), true) := by kernel_rfl
theorem forthB3 : forthI [(1, 0), (7, 3), (9, 0)] 1 = 2 := by kernel_rfl
theorem zero_p : azero prog 23 = some (.agg #[.int .i64 0, .int .i64 0]) := azero23
theorem awake_ok {h : Heap} : ACalls prog 11 #[] h (fun v h' => v = .bool true ∧ Keeps h h') := by
  refine acalls_of_W' func11 rfl (by kernel_rfl) (by kernel_rfl) (by simp [ntmps11]) ?_
  intro H
  have PN := fun {a : Addr} => ptr_some (P := prog) (a := a) underlying32
  have B1 := fun {hh : Heap} {x : Value} (ox : one x = true) => build1 (P := prog) (h := hh) underlying24 asz53 azero53 rfl ox
  have B2 := fun {hh : Heap} {x y : Value} (ox : one x = true) (oy : one y = true) => build2 (P := prog) (h := hh) underlying53 asz21 azero21 rfl ox oy
  have N1 := Keeps.new H 53 [.slice none 0 0]
  have R1 : Rd prog (h.new 53 [.slice none 0 0]) 1 (.slice (some ⟨h.size, 0, none⟩) 1 2) 1 [.slice none 0 0] := Rd.new H asz53 rfl
  simp only [wk, wt, wl, ↓reduceIte, Nat.reduceEqDiff, Nat.reduceAdd, Nat.zero_add, not_false_eq_true, not_true_eq_false, build_p2, B1 (rfl : one (.slice none 0 0) = true)]
  generalize h.new 53 [.slice none 0 0] = h1 at *
  have N2 := Keeps.new (Ch.wf N1) 21 [.int .i32 120, .int .i32 121]
  have R2 : Rd prog (h1.new 21 [.int .i32 120, .int .i32 121]) 1 (.slice (some ⟨h1.size, 0, none⟩) 2 3) 2 [.int .i32 120, .int .i32 121] := Rd.new (Ch.wf N1) asz21 rfl
  have K2 := N1.trans N2
  have R1 := R1.keeps N2
  generalize h1.new 21 [.int .i32 120, .int .i32 121] = h2 at *
  have N3 := Keeps.new (Ch.wf K2) 53 [.slice (some ⟨h1.size, 0, none⟩) 2 3]
  have R3 : Rd prog (h2.new 53 [.slice (some ⟨h1.size, 0, none⟩) 2 3]) 1 (.slice (some ⟨h2.size, 0, none⟩) 1 2) 1 [.slice (some ⟨h1.size, 0, none⟩) 2 3] := Rd.new (Ch.wf K2) asz53 rfl
  simp only [wk, wt, wl, ↓reduceIte, Nat.reduceEqDiff, Nat.reduceAdd, Nat.zero_add, not_false_eq_true, not_true_eq_false, B1 (rfl : one (.slice (some ⟨h1.size, 0, none⟩) 2 3) = true)]
  have K3 := K2.trans N3
  have R2 := R2.keeps N3
  have R1 := R1.keeps N3
  generalize h2.new 53 [.slice (some ⟨h1.size, 0, none⟩) 2 3] = h3 at *
  have T : LT h3 (.slice (some ⟨h2.size, 0, none⟩) 1 2) [[120, 121]] := ⟨[.slice (some ⟨h1.size, 0, none⟩) 2 3], rfl, R3, fun i x xs hx hl => by
    cases i with
    | zero => simp at hx hl; subst hx; subst hl; exact R2
    | succ i => simp at hx⟩
  have BC : abuild prog 26 #[(0, .int .i64 2), (1, .slice (some ⟨h.size, 0, none⟩) 1 2), (2, .slice (some ⟨h2.size, 0, none⟩) 1 2)] = some (chV 2 (.slice (some ⟨h.size, 0, none⟩) 1 2) (.slice (some ⟨h2.size, 0, none⟩) 1 2)) := by
    simp [abuild, wt, aplaces, Instr.fill, Value.cells, chV]
  simp only [wk, wt, wl, ↓reduceIte, Nat.reduceEqDiff, Nat.reduceAdd, Nat.zero_add, not_false_eq_true, not_true_eq_false, BC]
  refine (move_ok (pl := 2) (pc := 9) (c := 2) (o := 1) T (R1.len underlying24) rfl (by omega) (by omega) (by omega) (by decide)).use ?_
  rintro _ h4 ⟨rfl, K4⟩
  have mz : moveZ 2 9 2 ((1 : Nat) : Int) [[120, 121]] = ((2, 2), true) := by kernel_rfl
  rw [mz]
  have K04 := K3.trans K4
  obtain ⟨h5, e5, V5, K5, z5⟩ := newPos (Ch.wf K04) 2 2
  have K05 := K04.trans K5
  have P5 := fun {hh : Heap} (V : Var hh h4.size [.int .i64 2, .int .i64 2]) => V.loadA (P := prog) (t := 23) underlying23 rfl asz23
  simp only [wk, wt, wl, ↓reduceIte, Nat.reduceEqDiff, Nat.reduceAdd, Nat.zero_add, not_false_eq_true, not_true_eq_false, moveV, posV, zero_p, e5]
  refine (St.new (Keeps.refl (Ch.wf K05))).use ?_
  rintro _ h6 ⟨b, r, jv, rfl, S6⟩
  simp only [wk, wt, wl, ↓reduceIte, Nat.reduceEqDiff, Nat.reduceAdd, Nat.zero_add, not_false_eq_true, not_true_eq_false, PN, pt, build_p1]
  refine (S6.push 1 0).use ?_
  rintro _ h7 ⟨rfl, jv7, S7⟩
  simp only [pushA] at S7
  simp only [wk, wt, wl, ↓reduceIte, Nat.reduceEqDiff, Nat.reduceAdd, Nat.zero_add, not_false_eq_true, not_true_eq_false, build_p2]
  refine (S7.push 7 3).use ?_
  rintro _ h8 ⟨rfl, jv8, S8⟩
  simp only [pushB] at S8
  simp only [wk, wt, wl, ↓reduceIte, Nat.reduceEqDiff, Nat.reduceAdd, Nat.zero_add, not_false_eq_true, not_true_eq_false, build_p1]
  refine (S8.back 9 0).use ?_
  rintro _ h9 ⟨rfl, jv9, S9⟩
  simp only [backA2, backA3] at S9
  obtain ⟨h10, e10, S10⟩ := S9.pos 7 3
  simp only [wk, wt, wl, ↓reduceIte, Nat.reduceEqDiff, Nat.reduceAdd, Nat.zero_add, not_false_eq_true, not_true_eq_false, backA, moveV, posV, zero_p, e10, build_p1]
  refine (S10.back 9 0).use ?_
  rintro _ h11 ⟨rfl, jv11, S11⟩
  simp only [backB2, backB3] at S11
  obtain ⟨h12, e12, S12⟩ := S11.pos 1 0
  simp only [wk, wt, wl, ↓reduceIte, Nat.reduceEqDiff, Nat.reduceAdd, Nat.zero_add, not_false_eq_true, not_true_eq_false, backB, moveV, posV, zero_p, e12, build_p1]
  refine (S12.back 9 0).use ?_
  rintro _ h13 ⟨rfl, jv13, S13⟩
  simp only [backC2, backC3] at S13
  obtain ⟨h14, e14, S14⟩ := S13.pos 0 0
  simp only [wk, wt, wl, ↓reduceIte, Nat.reduceEqDiff, Nat.reduceAdd, Nat.zero_add, not_false_eq_true, not_true_eq_false, backC, moveV, posV, zero_p, e14]
  refine (S14.forth).use ?_
  rintro _ h15 ⟨rfl, S15⟩
  simp only [forthA3] at S15
  obtain ⟨h16, e16, S16⟩ := S15.pos 7 3
  simp only [wk, wt, wl, ↓reduceIte, Nat.reduceEqDiff, Nat.reduceAdd, Nat.zero_add, not_false_eq_true, not_true_eq_false, forthA, moveV, posV, zero_p, e16]
  refine (S16.forth).use ?_
  rintro _ h17 ⟨rfl, S17⟩
  simp only [forthB3] at S17
  obtain ⟨h18, e18, S18⟩ := S17.pos 9 0
  have PL := fun {hh : Heap} {L : List (Nat × List Value)} {jl : List (Int × Int)} {ix : Int} {es : List (Int × Value)} {jv : Value} (S : St h5 hh b r jv jl ix es L) => Keeps.var (Ch.wf K05) S.k V5
  have V18 := P5 (PL S18)
  have hf : fitsB 7 3 = true := by kernel_rfl
  simp only [wk, wt, wl, ↓reduceIte, Nat.reduceEqDiff, Nat.reduceAdd, Nat.zero_add, not_false_eq_true, not_true_eq_false, forthB, moveV, posV, zero_p, e18, V18, S18.load (p := h9.size) (x := 7) (y := 3) (by simp), S18.load (p := h11.size) (x := 1) (y := 0) (by simp), S18.load (p := h15.size) (x := 7) (y := 3) (by simp), S18.load (p := h17.size) (x := 9) (y := 0) (by simp), build_p1, build_p2, eql_pos, Bool.and_self, Bool.not_false]
  refine (S18.set (pl := 7) (pc := 3) (name := 97) (by omega) (by omega) hf).use ?_
  rintro _ h19 ⟨rfl, S19⟩
  simp only [wk, wt, wl, ↓reduceIte, Nat.reduceEqDiff, Nat.reduceAdd, Nat.zero_add, not_false_eq_true, not_true_eq_false, S19.load (p := h9.size) (x := 7) (y := 3) (by simp)]
  refine (S19.setA (pl := 7) (pc := 3) hf).use ?_
  rintro _ h20 ⟨rfl, S20⟩
  simp only [wk, wt, wl, ↓reduceIte, Nat.reduceEqDiff, Nat.reduceAdd, Nat.zero_add, not_false_eq_true, not_true_eq_false]
  exact K05.trans S20.k
end Go.Proofs.Ytepibodbcheobaa.Am
