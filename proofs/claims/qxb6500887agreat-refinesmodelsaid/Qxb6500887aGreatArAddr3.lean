/- The address functions under one contract each, whatever the address. -/
import Derived.Test.Qxb6500887aGreatArPlace
import Derived.Test.Qxb6500887aGreatArSound
namespace Go.Proofs.Qxb6500887aGreat
open Go.RowKit
set_option linter.unusedSimpArgs false
set_option linter.unusedVariables false

def cWof (x : Int) : Int := if InH x then 0 else 1
theorem word_any (x : Int) (w : World) :
    Calls Tryz.prog 141 #[.int .u64 x] w fun e w' => ∃ v : Int, e = .returned (.tuple #[.int .i64 v, .int .u8 (cWof x)]) ∧ (InH x → v = x - 65536) ∧ w' = w := by
  by_cases h : InH x
  · exact (wordIndex_in x h w).mono fun e w' ⟨he, hw⟩ => ⟨x - 65536, by rw [cWof, if_pos h]; exact he, fun _ => rfl, hw⟩
  · exact (wordIndex_out x h w).mono fun e w' ⟨he, hw⟩ => ⟨0, by rw [cWof, if_neg h]; exact he, fun h' => absurd h' h, hw⟩
theorem decode_any (x : Int) (w : World) :
    Calls Tryz.prog 246 #[.int .u64 x] w fun e w' => ∃ p0 p1 p2 p3 p4 : Int, e = .returned (.tuple #[.agg #[.int .i64 p0, .int .i64 p1, .int .i64 p2, .int .i64 p3, .int .i64 p4], .int .u8 (cWof x)]) ∧ Below w.heap.size w w' := by
  by_cases h : InH x
  · exact (decode_ok x h w).mono fun e w' ⟨he, hw⟩ => ⟨_, _, _, _, _, by rw [cWof, if_pos h]; exact he, hw⟩
  · exact (decode_no x h w).mono fun e w' ⟨he, hw⟩ => ⟨_, _, _, _, _, by rw [cWof, if_neg h]; exact he, hw⟩
theorem granule_any (x : Int) (w : World) :
    Calls Tryz.prog 139 #[.int .u64 x] w fun e w' => ∃ v : Int, e = .returned (.tuple #[.int .i64 v, .int .u8 (wantO x)]) ∧ (0 ≤ v ∧ v < 16384 ∧ (wantO x = 0 → 65536 + v * 2 = x)) ∧ w' = w := by
  by_cases h : InH x
  · by_cases he : x % 2 = 0
    · have hw : wantO x = 0 := by simp [wantO, h, he]
      exact (granule_ok x h he w).mono fun e w' ⟨h1, h2⟩ => ⟨_, by rw [hw]; exact h1, ⟨by have := h.1; omega, by have := h.2; omega, fun _ => by have := h.1; omega⟩, h2⟩
    · have hw : wantO x = 2 := by simp [wantO, h, he]
      exact (granule_odd x h he w).mono fun e w' ⟨h1, h2⟩ => ⟨0, by rw [hw]; exact h1, ⟨by omega, by omega, fun h' => by omega⟩, h2⟩
  · have hw : wantO x = 1 := by simp [wantO, h]
    exact (granule_out x h w).mono fun e w' ⟨h1, h2⟩ => ⟨0, by rw [hw]; exact h1, ⟨by omega, by omega, fun h' => by omega⟩, h2⟩
theorem linesFor_any (n : Int) (w : World) :
    Calls Tryz.prog 272 #[.int .i64 n] w fun e w' => ∃ v c : Int, e = .returned (.tuple #[.int .i64 v, .int .u8 c]) ∧ (c == 0) = decide (1 ≤ n ∧ n ≤ 32768) ∧ (1 ≤ n ∧ n ≤ 32768 → v = (n + 15) / 16) ∧ w' = w := by
  by_cases h : 1 ≤ n ∧ n ≤ 32768
  · exact (linesFor_in n h.1 h.2 w).mono fun e w' ⟨he, hw⟩ => ⟨_, 0, he, by rw [decide_eq_true h]; rfl, fun _ => rfl, hw⟩
  · exact (linesFor_out n h w).mono fun e w' ⟨he, hw⟩ => ⟨_, 4, he, by rw [decide_eq_false h]; rfl, fun h' => absurd h' h, hw⟩
theorem blocksFor_any (n : Int) (w : World) :
    Calls Tryz.prog 273 #[.int .i64 n] w fun e w' => ∃ v c : Int, e = .returned (.tuple #[.int .i64 v, .int .u8 c]) ∧ (c == 0) = decide (1 ≤ n ∧ n ≤ 32768) ∧ (1 ≤ n ∧ n ≤ 32768 → v = (n + 511) / 512) ∧ w' = w := by
  by_cases h : 1 ≤ n ∧ n ≤ 32768
  · exact (blocksFor_in n h.1 h.2 w).mono fun e w' ⟨he, hw⟩ => ⟨_, 0, he, by rw [decide_eq_true h]; rfl, fun _ => rfl, hw⟩
  · exact (blocksFor_out n h w).mono fun e w' ⟨he, hw⟩ => ⟨_, 4, he, by rw [decide_eq_false h]; rfl, fun h' => absurd h' h, hw⟩
theorem cW_bool (x : Int) : (cWof x == 0) = decide (InH x) := by
  unfold cWof
  by_cases h : InH x <;> simp [h]
end Go.Proofs.Qxb6500887aGreat
