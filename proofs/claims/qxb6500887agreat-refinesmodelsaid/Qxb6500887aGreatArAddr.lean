/- The small functions of arena/addr.go and of the laws on addresses. -/
import Derived.Test.Qxb6500887aGreatArOps
import Derived.Test.Qxb6500887aGreatRet
import Derived.Test.Qxb6500887aGreatDrew
namespace Go.Proofs.Qxb6500887aGreat
open Go.RowKit
set_option linter.unusedSimpArgs false
set_option linter.unusedVariables false

def InH (x : Int) : Prop := 65536 ≤ x ∧ x < 98304
instance (x : Int) : Decidable (InH x) := inferInstanceAs (Decidable (_ ∧ _))

theorem wordIndex_in (x : Int) (h : InH x) (w : World) :
    Calls Tryz.prog 141 #[.int .u64 x] w fun e w' => e = .returned (.tuple #[.int .i64 (x - 65536), .int .u8 0]) ∧ w' = w := by
  obtain ⟨h0, h1⟩ := h
  have d1 : decide (x < 65536) = false := decide_eq_false (by omega)
  have d2 : decide (98304 ≤ x) = false := decide_eq_false (by omega)
  go_enter Tryz.func141, Tryz.ntmps141
  go_wp2
  go_ret2
  exact ⟨rfl, rfl⟩
theorem wordIndex_out (x : Int) (h : ¬ InH x) (w : World) :
    Calls Tryz.prog 141 #[.int .u64 x] w fun e w' => e = .returned (.tuple #[.int .i64 0, .int .u8 1]) ∧ w' = w := by
  by_cases h0 : x < 65536
  · have d1 : decide (x < 65536) = true := decide_eq_true (by omega)
    go_enter Tryz.func141, Tryz.ntmps141
    go_wp2
    go_ret2
    exact ⟨rfl, rfl⟩
  · have d1 : decide (x < 65536) = false := decide_eq_false (by omega)
    have d2 : decide (98304 ≤ x) = true := decide_eq_true (by unfold InH at h; omega)
    go_enter Tryz.func141, Tryz.ntmps141
    go_wp2
    go_ret2
    exact ⟨rfl, rfl⟩

theorem granule_ok (x : Int) (h : InH x) (he : x % 2 = 0) (w : World) :
    Calls Tryz.prog 139 #[.int .u64 x] w fun e w' => e = .returned (.tuple #[.int .i64 ((x - 65536) / 2), .int .u8 0]) ∧ w' = w := by
  have HC := hid (fun w => wordIndex_in x h w)
  obtain ⟨h0, h1⟩ := h
  go_enter Tryz.func139, Tryz.ntmps139
  go_wp2_with ((go_at_call 141; refine (HC.out _).mono ?_; rintro e w1 ⟨rfl, rfl⟩))
  go_ret2
  exact ⟨rfl, rfl⟩
theorem granule_odd (x : Int) (h : InH x) (he : ¬ x % 2 = 0) (w : World) :
    Calls Tryz.prog 139 #[.int .u64 x] w fun e w' => e = .returned (.tuple #[.int .i64 0, .int .u8 2]) ∧ w' = w := by
  have HC := hid (fun w => wordIndex_in x h w)
  obtain ⟨h0, h1⟩ := h
  have d1 : ((x - 65536) % 2 != 0) = true := by simp; omega
  go_enter Tryz.func139, Tryz.ntmps139
  go_wp2_with ((go_at_call 141; refine (HC.out _).mono ?_; rintro e w1 ⟨rfl, rfl⟩))
  go_ret2
  exact ⟨rfl, rfl⟩
theorem granule_out (x : Int) (h : ¬ InH x) (w : World) :
    Calls Tryz.prog 139 #[.int .u64 x] w fun e w' => e = .returned (.tuple #[.int .i64 0, .int .u8 1]) ∧ w' = w := by
  have HC := hid (fun w => wordIndex_out x h w)
  clear h
  go_enter Tryz.func139, Tryz.ntmps139
  go_wp2_with ((go_at_call 141; refine (HC.out _).mono ?_; rintro e w1 ⟨rfl, rfl⟩))
  go_ret2
  exact ⟨rfl, rfl⟩
def wantO (x : Int) : Int := if InH x then (if x % 2 = 0 then 0 else 2) else 1
theorem validLine_walk (n : Int) (w : World) :
    Calls Tryz.prog 207 #[.int .i64 n] w fun e w' => e = .returned (.bool (decide (0 ≤ n ∧ n < 2048))) ∧ w' = w := by
  by_cases h0 : 0 ≤ n
  · have d1 : decide (0 ≤ n) = true := decide_eq_true h0
    by_cases h1 : n < 2048
    · have d2 : decide (n < 2048) = true := decide_eq_true h1
      rw [decide_eq_true (And.intro h0 h1)]
      go_enter Tryz.func207, Tryz.ntmps207
      go_wp2
      go_ret
      exact ⟨rfl, rfl⟩
    · have d2 : decide (n < 2048) = false := decide_eq_false h1
      rw [decide_eq_false (fun h => h1 h.2)]
      go_enter Tryz.func207, Tryz.ntmps207
      go_wp2
      go_ret
      exact ⟨rfl, rfl⟩
  · have d1 : decide (0 ≤ n) = false := decide_eq_false h0
    rw [decide_eq_false (fun h => h0 h.1)]
    go_enter Tryz.func207, Tryz.ntmps207
    go_wp2
    go_ret
    exact ⟨rfl, rfl⟩
theorem validBlock_walk (n : Int) (w : World) :
    Calls Tryz.prog 164 #[.int .i64 n] w fun e w' => e = .returned (.bool (decide (0 ≤ n ∧ n < 64))) ∧ w' = w := by
  by_cases h0 : 0 ≤ n
  · have d1 : decide (0 ≤ n) = true := decide_eq_true h0
    by_cases h1 : n < 64
    · have d2 : decide (n < 64) = true := decide_eq_true h1
      rw [decide_eq_true (And.intro h0 h1)]
      go_enter Tryz.func164, Tryz.ntmps164
      go_wp2
      go_ret
      exact ⟨rfl, rfl⟩
    · have d2 : decide (n < 64) = false := decide_eq_false h1
      rw [decide_eq_false (fun h => h1 h.2)]
      go_enter Tryz.func164, Tryz.ntmps164
      go_wp2
      go_ret
      exact ⟨rfl, rfl⟩
  · have d1 : decide (0 ≤ n) = false := decide_eq_false h0
    rw [decide_eq_false (fun h => h0 h.1)]
    go_enter Tryz.func164, Tryz.ntmps164
    go_wp2
    go_ret
    exact ⟨rfl, rfl⟩
theorem addrOfWord_in (n : Int) (h0 : 0 ≤ n) (h1 : n < 32768) (w : World) :
    Calls Tryz.prog 227 #[.int .i64 n] w fun e w' => e = .returned (.tuple #[.int .u64 (65536 + n), .int .u8 0]) ∧ w' = w := by
  have d1 : decide (n < 0) = false := decide_eq_false (by omega)
  have d2 : decide (32768 ≤ n) = false := decide_eq_false (by omega)
  go_enter Tryz.func227, Tryz.ntmps227
  go_wp2
  go_ret2
  exact ⟨rfl, rfl⟩
theorem addrOfWord_out (n : Int) (h : ¬ (0 ≤ n ∧ n < 32768)) (w : World) :
    Calls Tryz.prog 227 #[.int .i64 n] w fun e w' => e = .returned (.tuple #[.int .u64 0, .int .u8 1]) ∧ w' = w := by
  by_cases h0 : n < 0
  · have d1 : decide (n < 0) = true := decide_eq_true h0
    go_enter Tryz.func227, Tryz.ntmps227
    go_wp2
    go_ret2
    exact ⟨rfl, rfl⟩
  · have d1 : decide (n < 0) = false := decide_eq_false h0
    have d2 : decide (32768 ≤ n) = true := decide_eq_true (by omega)
    go_enter Tryz.func227, Tryz.ntmps227
    go_wp2
    go_ret2
    exact ⟨rfl, rfl⟩
theorem addrOfWord_any (n : Int) (w : World) :
    Calls Tryz.prog 227 #[.int .i64 n] w fun e w' => ∃ v c : Int, e = .returned (.tuple #[.int .u64 v, .int .u8 c]) ∧ (c == 0) = decide (0 ≤ n ∧ n < 32768) ∧ w' = w := by
  by_cases h : 0 ≤ n ∧ n < 32768
  · exact (addrOfWord_in n h.1 h.2 w).mono fun e w' ⟨he, hw⟩ => ⟨_, 0, he, by simp [h], hw⟩
  · exact (addrOfWord_out n h w).mono fun e w' ⟨he, hw⟩ => ⟨_, 1, he, by rw [decide_eq_false h]; rfl, hw⟩
theorem addrOfGranule_in (n : Int) (h0 : 0 ≤ n) (h1 : n < 16384) (w : World) :
    Calls Tryz.prog 228 #[.int .i64 n] w fun e w' => e = .returned (.tuple #[.int .u64 (65536 + n * 2), .int .u8 0]) ∧ w' = w := by
  have d1 : decide (n < 0) = false := decide_eq_false (by omega)
  have d2 : decide (16384 ≤ n) = false := decide_eq_false (by omega)
  go_enter Tryz.func228, Tryz.ntmps228
  go_wp2
  go_ret2
  exact ⟨rfl, rfl⟩
theorem addrOfGranule_out (n : Int) (h : ¬ (0 ≤ n ∧ n < 16384)) (w : World) :
    Calls Tryz.prog 228 #[.int .i64 n] w fun e w' => e = .returned (.tuple #[.int .u64 0, .int .u8 1]) ∧ w' = w := by
  by_cases h0 : n < 0
  · have d1 : decide (n < 0) = true := decide_eq_true h0
    go_enter Tryz.func228, Tryz.ntmps228
    go_wp2
    go_ret2
    exact ⟨rfl, rfl⟩
  · have d1 : decide (n < 0) = false := decide_eq_false h0
    have d2 : decide (16384 ≤ n) = true := decide_eq_true (by omega)
    go_enter Tryz.func228, Tryz.ntmps228
    go_wp2
    go_ret2
    exact ⟨rfl, rfl⟩
theorem addrOfGranule_any (n : Int) (w : World) :
    Calls Tryz.prog 228 #[.int .i64 n] w fun e w' => ∃ v c : Int, e = .returned (.tuple #[.int .u64 v, .int .u8 c]) ∧ (c == 0) = decide (0 ≤ n ∧ n < 16384) ∧ w' = w := by
  by_cases h : 0 ≤ n ∧ n < 16384
  · exact (addrOfGranule_in n h.1 h.2 w).mono fun e w' ⟨he, hw⟩ => ⟨_, 0, he, by simp [h], hw⟩
  · exact (addrOfGranule_out n h w).mono fun e w' ⟨he, hw⟩ => ⟨_, 1, he, by rw [decide_eq_false h]; rfl, hw⟩
theorem firstLine_in (n : Int) (h0 : 0 ≤ n) (h1 : n < 64) (w : World) :
    Calls Tryz.prog 159 #[.int .i64 n] w fun e w' => e = .returned (.tuple #[.int .i64 (n * 32), .int .u8 0]) ∧ w' = w := by
  have HC := hid (fun w => validBlock_walk n w)
  rw [decide_eq_true (And.intro h0 h1)] at HC
  go_enter Tryz.func159, Tryz.ntmps159
  go_wp2_with (go_at_call 164; refine (HC.out _).mono ?_; rintro e w1 ⟨rfl, rfl⟩)
  go_ret2
  exact ⟨rfl, rfl⟩
theorem firstLine_out (n : Int) (h : ¬ (0 ≤ n ∧ n < 64)) (w : World) :
    Calls Tryz.prog 159 #[.int .i64 n] w fun e w' => e = .returned (.tuple #[.int .i64 0, .int .u8 1]) ∧ w' = w := by
  have HC := hid (fun w => validBlock_walk n w)
  rw [decide_eq_false h] at HC
  clear h
  go_enter Tryz.func159, Tryz.ntmps159
  go_wp2_with (go_at_call 164; refine (HC.out _).mono ?_; rintro e w1 ⟨rfl, rfl⟩)
  go_ret2
  exact ⟨rfl, rfl⟩
theorem firstLine_any (n : Int) (w : World) :
    Calls Tryz.prog 159 #[.int .i64 n] w fun e w' => ∃ v c : Int, e = .returned (.tuple #[.int .i64 v, .int .u8 c]) ∧ (c == 0) = decide (0 ≤ n ∧ n < 64) ∧ w' = w := by
  by_cases h : 0 ≤ n ∧ n < 64
  · exact (firstLine_in n h.1 h.2 w).mono fun e w' ⟨he, hw⟩ => ⟨_, 0, he, by simp [h], hw⟩
  · exact (firstLine_out n h w).mono fun e w' ⟨he, hw⟩ => ⟨_, 1, he, by rw [decide_eq_false h]; rfl, hw⟩
end Go.Proofs.Qxb6500887aGreat
