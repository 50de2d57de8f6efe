/- The invariant of a walk, kept by Start and Expand. -/
import Derived.Test.Qxb6500891aPtWkE
namespace Go.Proofs.Qxb6500891a
open Go.RowKit
set_option linter.unusedSimpArgs false
set_option linter.unusedVariables false

theorem start_inv {S : WS} {l : List Nat} {code : Int} {ab : Bool} {ds : List Value} (h0 : S.links = 0) (h1 : S.steps = 0) (h2 : S.tk = false)
    (h : (code ≠ 0 ∧ S.lv = [] ∧ ¬ GoodP l) ∨ (code = 0 ∧ (l.head? == some 47) = ab ∧ ∃ o sp, PathOk ds o l sp ∧ ((sp = [] ∧ S.lv = []) ∨ (sp ≠ [] ∧ S.lv = [⟨l, sp, 0, false⟩])))) : WInv S := by
  have hnil : S.lv = [] → WInv S := fun h => ⟨by rw [h]; simp, by omega, by rw [h, h1]; simp [leftL], fun k L _ hL => by rw [h] at hL; simp at hL, fun h3 => by rw [h2] at h3; cases h3⟩
  rcases h with ⟨_, h3, _⟩ | ⟨_, _, o, sp, hp, ⟨_, h3⟩ | ⟨_, h3⟩⟩
  · exact hnil h3
  · exact hnil h3
  · have h128 := hp.n128
    refine ⟨by rw [h3]; simp, by omega, ?_, fun k L hk hL => ?_, fun h4 => by rw [h2] at h4; cases h4⟩
    · rw [h3, h1, h0]
      simp [leftL]
      omega
    · have hlt := (List.getElem?_eq_some_iff.1 hL).1
      rw [h3] at hlt
      simp at hlt
      omega
theorem exp_inv {S : WS} {l : List Nat} {sp : List Sp} (h : WInv S) (htk : S.tk = true) (hl : S.links < 8) (hsp : sp.length ≤ 128) :
    WInv { S with lv := if sp = [] then S.lv else S.lv ++ [⟨l, sp, 0, S.tn⟩], links := S.links + 1, tk := false } ∧ leftL S.lv ≤ leftL (if sp = [] then S.lv else S.lv ++ [⟨l, sp, 0, S.tn⟩]) := by
  have h1 := h.dl
  have h2 := h.sum
  by_cases hs : sp = []
  · simp only [if_pos hs]
    exact ⟨⟨by show S.lv.length ≤ S.links + 1 + 1; omega, by show S.links + 1 ≤ 8; omega, by show S.steps + leftL S.lv ≤ 128 * (S.links + 1 + 1); omega, h.nd, fun h => (by cases h)⟩, Nat.le_refl _⟩
  · simp only [if_neg hs]
    have hle : leftL (S.lv ++ [⟨l, sp, 0, S.tn⟩]) = leftL S.lv + sp.length := by rw [leftL_snoc]; rfl
    refine ⟨⟨by show (S.lv ++ [_]).length ≤ S.links + 1 + 1; simp; omega, by show S.links + 1 ≤ 8; omega, ?_, fun k L hk hL => ?_, fun h => (by cases h)⟩, by rw [hle]; omega⟩
    · show S.steps + leftL (S.lv ++ [⟨l, sp, 0, S.tn⟩]) ≤ 128 * (S.links + 1 + 1)
      rw [hle]
      omega
    · have hL' : (S.lv ++ [⟨l, sp, 0, S.tn⟩])[k]? = some L := hL
      by_cases hk2 : k < S.lv.length
      · rw [List.getElem?_append_left hk2] at hL'
        exact h.nd k L hk hL'
      · have hlt := (List.getElem?_eq_some_iff.1 hL').1
        simp at hlt
        have hke : k = S.lv.length := by omega
        subst hke
        rw [List.getElem?_append_right (by omega)] at hL'
        simp at hL'
        rw [← hL']
        exact h.tn htk (fun e => by rw [e] at hk; simp at hk)
end Go.Proofs.Qxb6500891a
