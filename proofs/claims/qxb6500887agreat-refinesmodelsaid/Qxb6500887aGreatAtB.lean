/- The surveys in the shape that playLines reads. -/
import Derived.Test.Qxb6500887aGreatAtA
namespace Go.Proofs.Qxb6500887aGreat
open Go.RowKit
set_option linter.unusedSimpArgs false
set_option linter.unusedVariables false
section
variable {l : AL} {S : AS} {w w' w0 : World} {a b c : Int}
theorem usageX2 (h : AM l S w) : Calls Tryz.prog 237 #[.pointer (some ⟨l.a, 0, none⟩)] w fun e w' => ∃ xs : List Int, xs.length = 8 ∧ e = .returned (.agg (xs.map inV).toArray) ∧ Hid (xs = nI (usL (abE S)) ∧ Below w.heap.size w w') :=
  (usageX h).mono (fun e w' h => ⟨nI (usL (abE S)), rfl, by rw [nI_inV]; exact h.1, hid ⟨rfl, h.2.out⟩⟩)
theorem heapMapX2 (h : AM l S w) : Calls Tryz.prog 243 #[.pointer (some ⟨l.a, 0, none⟩)] w fun e w' => ∃ s : ByteArray, e = .returned (.string s) ∧ Hid (s = bsA (hmL (abE S)) ∧ Below w.heap.size w w') :=
  (heapMapX h).mono (fun e w' h => ⟨_, h.1, hid ⟨rfl, h.2.out⟩⟩)
theorem rd60 {na bk cd : Int} {xs : List Int} (ha : nbI a = na) (h : (BkI na ∧ cd = 0 ∧ bk = clM (flE (abE S).T na.toNat 32) ∧ xs = nI (bkL (abE S) na.toNat)) ∨ (¬ BkI na ∧ cd = 1 ∧ bk = 0 ∧ xs = [0, 0, 0, 0, 0, 0])) : rsOf { data := #[] } cd [0, 0, 0, 0, 0, 0, 0, 0] [0, 0, 0, 0, 0] [0, 0, 0] bk xs [0, 0, 0, 0, 0, 0, 0, 0] = (stR (abE S) 60 a b c).1 := by
  show _ = biA (abE S) (nbI a)
  unfold biA
  rw [ha]
  rcases h with ⟨h1, h2, h3, h4⟩ | ⟨h1, h2, h3, h4⟩
  · rw [if_neg (by unfold BkI at h1; omega), h2, h3, h4]
  · rw [if_pos (by unfold BkI at h1; omega), h2, h3, h4]; rfl
theorem rd55 {na cd : Int} {s : ByteArray} (ha : nbI a = na) (h : (BkI na ∧ cd = 0 ∧ s = bsA (bmL (abE S) na.toNat)) ∨ (¬ BkI na ∧ cd = 1 ∧ s = { data := #[] })) : rsOf s cd [0, 0, 0, 0, 0, 0, 0, 0] [0, 0, 0, 0, 0] [0, 0, 0] 0 [0, 0, 0, 0, 0, 0] [0, 0, 0, 0, 0, 0, 0, 0] = (stR (abE S) 55 a b c).1 := by
  show _ = bmA (abE S) (nbI a)
  unfold bmA
  rw [ha]
  rcases h with ⟨h1, h2, h3⟩ | ⟨h1, h2, h3⟩
  · rw [if_neg (by unfold BkI at h1; omega), h2, h3]; rfl
  · rw [if_pos (by unfold BkI at h1; omega), h2, h3]; rfl
end
end Go.Proofs.Qxb6500887aGreat
