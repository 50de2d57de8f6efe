/- The model's pause, plainly, beside its walk. -/
import Derived.Test.Qxb6500888aBaKf
namespace Go.Proofs.Qxb6500888a
open Go.RowKit
set_option linter.unusedSimpArgs false
set_option linter.unusedVariables false

def mhl (G : GS) (atp : Nat → Nat) (hv : Nat → List Nat) (f : Nat) : Nat → List Nat := hlog2 (hlog1 hv (atp (offA f))) (G.word (offA f))
def mhls (G : GS) (atp : Nat → Nat) (D : List Nat) : Nat → List Nat := D.foldl (mhl G atp) hv00
section
variable {G : GS} {atp : Nat → Nat} {M : MS}
theorem mhls_s (D : List Nat) (x : Nat) : mhls G atp (D ++ [x]) = mhl G atp (mhls G atp D) x := by
  unfold mhls
  rw [List.foldl_append]
  rfl
theorem wIn_cons (f : Nat) (D : List Nat) : wIn G (f :: D) = (if G.word (offA f) = 0 then [] else [G.word (offA f)]) ++ wIn G D := by
  unfold wIn
  rw [List.map_cons, List.filter_cons]
  by_cases h : G.word (offA f) = 0
  · rw [if_pos h, if_neg (by simp [h])]; rfl
  · rw [if_neg h, if_pos (by simp [h])]; rfl
theorem wDe_cons (f : Nat) (D : List Nat) : wDe atp (f :: D) = (if atp (offA f) = 0 then [] else [atp (offA f)]) ++ wDe atp D := by
  unfold wDe
  rw [List.map_cons, List.filter_cons]
  by_cases h : atp (offA f) = 0
  · rw [if_pos h, if_neg (by simp [h])]; rfl
  · rw [if_neg h, if_pos (by simp [h])]; rfl
theorem mhl_0 (hv : Nat → List Nat) (f : Nat) : mhl G atp hv f 0 = hv 0 ++ (if G.word (offA f) = 0 then [] else [G.word (offA f)]) := by
  unfold mhl hlog2 hlog1 hput
  by_cases h1 : atp (offA f) = 0
  · rw [if_pos h1]
    by_cases h2 : G.word (offA f) = 0
    · rw [if_pos h2, if_pos h2, List.append_nil]
    · rw [if_neg h2, if_neg h2, fup_self]
  · rw [if_neg h1]
    by_cases h2 : G.word (offA f) = 0
    · rw [if_pos h2, if_pos h2, List.append_nil, fup_ne _ _ (by decide)]
    · rw [if_neg h2, if_neg h2, fup_self, fup_ne _ _ (by decide)]
theorem mhl_1 (hv : Nat → List Nat) (f : Nat) : mhl G atp hv f 1 = hv 1 ++ (if atp (offA f) = 0 then [] else [atp (offA f)]) := by
  unfold mhl hlog2 hlog1 hput
  by_cases h1 : atp (offA f) = 0
  · rw [if_pos h1, if_pos h1, List.append_nil]
    by_cases h2 : G.word (offA f) = 0
    · rw [if_pos h2]
    · rw [if_neg h2, fup_ne _ _ (by decide)]
  · rw [if_neg h1, if_neg h1]
    by_cases h2 : G.word (offA f) = 0
    · rw [if_pos h2, fup_self]
    · rw [if_neg h2, fup_ne _ _ (by decide), fup_self]
theorem mhl_i (hv : Nat → List Nat) (f : Nat) {i : Nat} (hi : 2 ≤ i) : mhl G atp hv f i = hv i := by
  unfold mhl hlog2 hlog1 hput
  by_cases h1 : atp (offA f) = 0
  · rw [if_pos h1]
    by_cases h2 : G.word (offA f) = 0
    · rw [if_pos h2]
    · rw [if_neg h2, fup_ne _ _ (by omega)]
  · rw [if_neg h1]
    by_cases h2 : G.word (offA f) = 0
    · rw [if_pos h2, fup_ne _ _ (by omega)]
    · rw [if_neg h2, fup_ne _ _ (by omega), fup_ne _ _ (by omega)]
theorem mhlf : ∀ (D : List Nat) (hv : Nat → List Nat), (D.foldl (mhl G atp) hv) 0 = hv 0 ++ wIn G D ∧ (D.foldl (mhl G atp) hv) 1 = hv 1 ++ wDe atp D ∧ ∀ i, 2 ≤ i → (D.foldl (mhl G atp) hv) i = hv i
  | [], hv => by simp [wIn, wDe]
  | f :: D, hv => by
    have := mhlf D (mhl G atp hv f)
    rw [List.foldl_cons, wIn_cons, wDe_cons, ← List.append_assoc, ← List.append_assoc, ← mhl_0, ← mhl_1]
    exact ⟨this.1, this.2.1, fun i hi => by rw [this.2.2 i hi, mhl_i _ _ hi]⟩
theorem mhls_0 (D : List Nat) : mhls G atp D 0 = wIn G D := by have := (mhlf (G := G) (atp := atp) D hv00).1; exact this
theorem mhls_1 (D : List Nat) : mhls G atp D 1 = wDe atp D := by have := (mhlf (G := G) (atp := atp) D hv00).2.1; exact this
theorem mhls_hi (D : List Nat) {i : Nat} (hi : 2 ≤ i) : mhls G atp D i = [] := (mhlf (G := G) (atp := atp) D hv00).2.2 i hi
theorem mhls_len (D : List Nat) (i : Nat) : (mhls G atp D i).length ≤ D.length := by
  rcases (by omega : i = 0 ∨ i = 1 ∨ 2 ≤ i) with rfl | rfl | h
  · rw [mhls_0]; unfold wIn; exact Nat.le_trans (List.length_filter_le _ _) (by simp)
  · rw [mhls_1]; unfold wDe; exact Nat.le_trans (List.length_filter_le _ _) (by simp)
  · rw [mhls_hi _ h]; simp
def mrK (M : MS) (k : Nat) : List Nat := (List.range k).flatMap M.roots
theorem mrK_s (M : MS) (k : Nat) : mrK M (k + 1) = mrK M k ++ M.roots k := by
  unfold mrK
  rw [List.range_succ, List.flatMap_append]
  simp
theorem mrK_len (h : ∀ m, (M.roots m).length ≤ 64) : ∀ k, (mrK M k).length ≤ 64 * k
  | 0 => by simp [mrK]
  | k + 1 => by
    rw [mrK_s, List.length_append]
    have := mrK_len h k
    have := h k
    omega
/-- The harvest ahead of the increments. -/
theorem mhv0_eq (W : List Nat) : mhv0 G M W = fup (fup (fup (mhls G M.atp W) 2 (mrK M 4)) 3 M.last) 7 (if M.st = true then mrK M 4 else if M.tr = true then mhls G M.atp W 1 else []) := by
  funext i
  unfold mhv0
  by_cases h7 : i = 7
  · subst h7; rw [fup_self, mhls_1]; rfl
  rw [fup_ne _ _ h7]
  by_cases h3 : i = 3
  · subst h3; rw [fup_self]; rfl
  rw [fup_ne _ _ h3]
  by_cases h2 : i = 2
  · subst h2; rw [fup_self]; rfl
  rw [fup_ne _ _ h2]
  by_cases h0 : i = 0
  · subst h0; rw [mhls_0]; rfl
  by_cases h1 : i = 1
  · subst h1; rw [mhls_1]; rfl
  rw [if_neg h0, if_neg h1, if_neg h2, if_neg h3, if_neg h7, mhls_hi _ (by omega)]
theorem mhv0_len (W : List Nat) (hr : ∀ m, (M.roots m).length ≤ 64) (hl : M.last.length ≤ 1000000) (hw : W.length ≤ 32768) (i : Nat) : (mhv0 G M W i).length ≤ 1000000 := by
  have h1 := mrK_len hr 4
  have h2 : mroots M = mrK M 4 := rfl
  unfold mhv0
  have h3 := mhls_len (G := G) (atp := M.atp) W 0
  have h4 := mhls_len (G := G) (atp := M.atp) W 1
  rw [mhls_0] at h3
  rw [mhls_1] at h4
  rw [h2]
  repeat' split
  all_goals first | omega | simp
end
/-- Which rows grow behind the seeds: 4, 5, 6. -/
def RlOk (rl : Nat → Nat) : Prop := ∀ i, 4 ≤ i → i ≤ 6 → rl i = 41 + i ∧ ∀ j, j < 8 → j ≠ i → rl j ≠ 41 + i
def rlA : Nat → Nat := fun i => 41 + i
end Go.Proofs.Qxb6500888a
