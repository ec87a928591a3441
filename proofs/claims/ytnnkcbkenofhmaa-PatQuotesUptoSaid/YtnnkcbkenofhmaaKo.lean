/- PatGroups told of abstract memory. -/
import Derived.Test.YtnnkcbkenofhmaaKn
set_option linter.unusedSimpArgs false
set_option linter.unusedVariables false
set_option maxHeartbeats 4000000
set_option maxRecDepth 20000
namespace Go.Proofs.Ytnnkcbkenofhmaa.Am
open Go Go.RowKit Go.Proofs.Try
/-- A row of runes of one's own that grows. -/
def OwI (B : Nat) (h : Heap) (v : Value) (l : List Int) : Prop := Own prog B h 1 v l.length (l.map (Value.int .i32))
theorem OwI.rd {B : Nat} {h : Heap} {v : Value} {l : List Int} (O : OwI B h v l) : RdI prog h .i32 v l := O.1
theorem OwI.keeps {B : Nat} {h h' : Heap} {v : Value} {l : List Int} (O : OwI B h v l) (K : Keeps h h') : OwI B h' v l := Own.keeps O K
theorem OwI.nil {B : Nat} {h : Heap} : OwI B h nilS [] := Own.nil0
theorem OwI.new {B : Nat} {h : Heap} (H : Wf h) (hB : B ≤ h.size) {l : List Int} {c : Nat} : OwI B (h.new 21 (l.map (Value.int .i32))) (.slice (some ⟨h.size, 0, none⟩) l.length c) l := Own.new H hB asz21 (by simp)
theorem OwI.app {h0 h : Heap} {v x : Value} {l l2 : List Int} (K : Keeps h0 h) (O : OwI h0.size h v l) (X : RdI prog h .i32 x l2) (hb : l.length + l2.length ≤ 1000000000) :
    ∃ v' h', aappend prog h 22 22 v x = some (v', h') ∧ OwI h0.size h' v' (l ++ l2) ∧ Keeps h0 h' ∧ Reads h h' ∧ h.size ≤ h'.size := by
  obtain ⟨v', h', e1, O1, R1, C1, _⟩ := Own.appendRd (Ch.wf K) (Ch.le K) O underlying22 underlying22 rfl elem21 fits21 (by decide) X (by omega)
  refine ⟨v', h', e1, ?_, K.step C1 fun b e => e.2, R1, Ch.le C1⟩
  unfold OwI
  rw [List.length_append, List.map_append]; exact O1
/-- A written row behind it. -/
theorem OwI.lit {h0 h : Heap} {v : Value} {l : List Int} (K : Keeps h0 h) (O : OwI h0.size h v l) (l2 : List Int) (hb : l.length + l2.length ≤ 1000000000) :
    ∃ v' h', aappend prog (h.new 21 (l2.map (Value.int .i32))) 22 22 v (.slice (some ⟨h.size, 0, none⟩) l2.length (l2.length + 1)) = some (v', h') ∧ OwI h0.size h' v' (l ++ l2) ∧ Keeps h0 h' ∧ Reads h h' ∧ h.size ≤ h'.size := by
  have N := Keeps.new (Ch.wf K) 21 (l2.map (Value.int .i32))
  obtain ⟨v', h', e1, O1, K1, R1, z1⟩ := (O.keeps N).app (K.trans N) (Rd.new (Ch.wf K) asz21 (by simp)) hb
  exact ⟨v', h', e1, O1, K1, (N.reads (Ch.wf K)).trans R1, Nat.le_trans (Ch.le N) z1⟩
def opn : Nat → List Int
  | 0 => []
  | n + 1 => opn n ++ [92, 40]
def cls : Nat → List Int
  | 0 => []
  | n + 1 => cls n ++ [92, 41]
def gr (n : Nat) : List Int := opn n ++ [97] ++ cls n
def nestP : Nat → Int → Pat
  | 0, _ => pR 97
  | n + 1, g => pG g (nestP n (g + 1))
theorem opn_len : ∀ n, (opn n).length = 2 * n
  | 0 => rfl
  | n + 1 => by simp only [opn, List.length_append, opn_len n, List.length_cons, List.length_nil]; omega
theorem cls_len : ∀ n, (cls n).length = 2 * n
  | 0 => rfl
  | n + 1 => by simp only [cls, List.length_append, cls_len n, List.length_cons, List.length_nil]; omega
theorem upto20 {Q : Nat → Prop} (h : ∀ n, n ∈ List.range 21 → Q n) {n : Nat} (hn : n ≤ 20) : Q n := h n (by simp; omega)
theorem i32_opn : ∀ n, ∀ x, x ∈ opn n → 0 ≤ x ∧ x ≤ 1000
  | 0, x, h => by simp [opn] at h
  | n + 1, x, h => by
    simp only [opn, List.mem_append, List.mem_cons, List.not_mem_nil, or_false] at h
    rcases h with h | rfl | rfl
    · exact i32_opn n x h
    · omega
    · omega
theorem i32_cls : ∀ n, ∀ x, x ∈ cls n → 0 ≤ x ∧ x ≤ 1000
  | 0, x, h => by simp [cls] at h
  | n + 1, x, h => by
    simp only [cls, List.mem_append, List.mem_cons, List.not_mem_nil, or_false] at h
    rcases h with h | rfl | rfl
    · exact i32_cls n x h
    · omega
    · omega
theorem i32_gr (n : Nat) : I32 (gr n) := fun x hx => by
  simp only [gr, List.mem_append, List.mem_cons, List.not_mem_nil, or_false] at hx
  rcases hx with (hx | rfl) | hx
  · have := i32_opn n x hx; omega
  · omega
  · have := i32_cls n x hx; omega
theorem gr_deep {n : Nat} (h1 : 16 < n) (h2 : n ≤ 20) : (parseR (gr n)).2 = 12 := by
  rcases (show n = 17 ∨ n = 18 ∨ n = 19 ∨ n = 20 by omega) with rfl | rfl | rfl | rfl <;> kernel_rfl
theorem gr_fine {n : Nat} (h : n ≤ 16) : parseR (gr n) = (nestP n 1, 0) := by
  rcases (show n = 0 ∨ n = 1 ∨ n = 2 ∨ n = 3 ∨ n = 4 ∨ n = 5 ∨ n = 6 ∨ n = 7 ∨ n = 8 ∨ n = 9 ∨ n = 10 ∨ n = 11 ∨ n = 12 ∨ n = 13 ∨ n = 14 ∨ n = 15 ∨ n = 16 by omega) with rfl | rfl | rfl | rfl | rfl | rfl | rfl | rfl | rfl | rfl | rfl | rfl | rfl | rfl | rfl | rfl | rfl <;> kernel_rfl
theorem gr_open {n : Nat} (h : n ≤ 16) : (parseR (gr n ++ [92, 41])).2 = 10 := by
  rcases (show n = 0 ∨ n = 1 ∨ n = 2 ∨ n = 3 ∨ n = 4 ∨ n = 5 ∨ n = 6 ∨ n = 7 ∨ n = 8 ∨ n = 9 ∨ n = 10 ∨ n = 11 ∨ n = 12 ∨ n = 13 ∨ n = 14 ∨ n = 15 ∨ n = 16 by omega) with rfl | rfl | rfl | rfl | rfl | rfl | rfl | rfl | rfl | rfl | rfl | rfl | rfl | rfl | rfl | rfl | rfl <;> kernel_rfl
end Go.Proofs.Ytnnkcbkenofhmaa.Am
