/- The small functions of arena/addr.go and of the laws on addresses. -/
import Derived.Test.Qxb6500887aArOps
import Derived.Test.Qxb6500887aRet
import Derived.Test.Qxb6500887aDrew
namespace Go.Proofs.Qxb6500887a
open Go.RowKit
set_option linter.unusedSimpArgs false
set_option linter.unusedVariables false

def InH (x : Int) : Prop := 65536 ≤ x ∧ x < 98304
instance (x : Int) : Decidable (InH x) := inferInstanceAs (Decidable (_ ∧ _))

theorem wordIndex_in (x : Int) (h : InH x) (w : World) :
    Calls Try.prog 25 #[.int .u64 x] w fun e w' => e = .returned (.tuple #[.int .i64 (x - 65536), .int .u8 0]) ∧ w' = w := by
  obtain ⟨h0, h1⟩ := h
  have d1 : decide (x < 65536) = false := decide_eq_false (by omega)
  have d2 : decide (98304 ≤ x) = false := decide_eq_false (by omega)
  go_enter Try.func25, Try.ntmps25
  go_wp2
  go_ret2
  exact ⟨rfl, rfl⟩
theorem wordIndex_out (x : Int) (h : ¬ InH x) (w : World) :
    Calls Try.prog 25 #[.int .u64 x] w fun e w' => e = .returned (.tuple #[.int .i64 0, .int .u8 1]) ∧ w' = w := by
  by_cases h0 : x < 65536
  · have d1 : decide (x < 65536) = true := decide_eq_true (by omega)
    go_enter Try.func25, Try.ntmps25
    go_wp2
    go_ret2
    exact ⟨rfl, rfl⟩
  · have d1 : decide (x < 65536) = false := decide_eq_false (by omega)
    have d2 : decide (98304 ≤ x) = true := decide_eq_true (by unfold InH at h; omega)
    go_enter Try.func25, Try.ntmps25
    go_wp2
    go_ret2
    exact ⟨rfl, rfl⟩

theorem granule_ok (x : Int) (h : InH x) (he : x % 2 = 0) (w : World) :
    Calls Try.prog 28 #[.int .u64 x] w fun e w' => e = .returned (.tuple #[.int .i64 ((x - 65536) / 2), .int .u8 0]) ∧ w' = w := by
  have HC := hid (fun w => wordIndex_in x h w)
  obtain ⟨h0, h1⟩ := h
  go_enter Try.func28, Try.ntmps28
  go_wp2_with ((go_at_call 25; refine (HC.out _).mono ?_; rintro e w1 ⟨rfl, rfl⟩))
  go_ret2
  exact ⟨rfl, rfl⟩
theorem granule_odd (x : Int) (h : InH x) (he : ¬ x % 2 = 0) (w : World) :
    Calls Try.prog 28 #[.int .u64 x] w fun e w' => e = .returned (.tuple #[.int .i64 0, .int .u8 2]) ∧ w' = w := by
  have HC := hid (fun w => wordIndex_in x h w)
  obtain ⟨h0, h1⟩ := h
  have d1 : ((x - 65536) % 2 != 0) = true := by simp; omega
  go_enter Try.func28, Try.ntmps28
  go_wp2_with ((go_at_call 25; refine (HC.out _).mono ?_; rintro e w1 ⟨rfl, rfl⟩))
  go_ret2
  exact ⟨rfl, rfl⟩
theorem granule_out (x : Int) (h : ¬ InH x) (w : World) :
    Calls Try.prog 28 #[.int .u64 x] w fun e w' => e = .returned (.tuple #[.int .i64 0, .int .u8 1]) ∧ w' = w := by
  have HC := hid (fun w => wordIndex_out x h w)
  clear h
  go_enter Try.func28, Try.ntmps28
  go_wp2_with ((go_at_call 25; refine (HC.out _).mono ?_; rintro e w1 ⟨rfl, rfl⟩))
  go_ret2
  exact ⟨rfl, rfl⟩
theorem inHeap_walk (x : Int) (w : World) :
    Calls Try.prog 20 #[.int .u64 x] w fun e w' => e = .returned (.bool (decide (InH x))) ∧ w' = w := by
  by_cases h0 : 65536 ≤ x
  · have d1 : decide (65536 ≤ x) = true := decide_eq_true h0
    by_cases h1 : x < 98304
    · rw [decide_eq_true (show InH x from ⟨h0, h1⟩)]
      have d2 : decide (x < 98304) = true := decide_eq_true h1
      go_enter Try.func20, Try.ntmps20
      go_wp2
      go_ret
      exact ⟨rfl, rfl⟩
    · rw [decide_eq_false (show ¬ InH x from fun h => h1 h.2)]
      have d2 : decide (x < 98304) = false := decide_eq_false h1
      go_enter Try.func20, Try.ntmps20
      go_wp2
      go_ret
      exact ⟨rfl, rfl⟩
  · rw [decide_eq_false (show ¬ InH x from fun h => h0 h.1)]
    have d1 : decide (65536 ≤ x) = false := decide_eq_false h0
    go_enter Try.func20, Try.ntmps20
    go_wp2
    go_ret
    exact ⟨rfl, rfl⟩
theorem onGranule_walk (x : Int) (h : InH x) (w : World) :
    Calls Try.prog 56 #[.int .u64 x] w fun e w' => e = .returned (.bool (decide (x % 2 = 0))) ∧ w' = w := by
  obtain ⟨h0, h1⟩ := h
  have e : (((x - 65536) % 2 : Int) == 0) = decide (x % 2 = 0) := by
    by_cases h : x % 2 = 0
    · have : (x - 65536) % 2 = 0 := by omega
      simp [h, this]
    · have : ¬ (x - 65536) % 2 = 0 := by omega
      simp [h, this]
  have HE := hid e
  clear e
  go_enter Try.func56, Try.ntmps56
  go_wp2
  go_ret
  exact ⟨by rw [HE.out]; rfl, rfl⟩
theorem wantWord_walk (x : Int) (w : World) :
    Calls Try.prog 17 #[.int .u64 x] w fun e w' => e = .returned (.int .u8 (if InH x then 0 else 1)) ∧ w' = w := by
  have HC := hid (fun w => inHeap_walk x w)
  by_cases h : InH x
  · rw [if_pos h]
    rw [decide_eq_true h] at HC
    go_enter Try.func17, Try.ntmps17
    go_wp2_with (go_at_call 20; refine (HC.out _).mono ?_; rintro e w1 ⟨rfl, rfl⟩)
    go_ret
    exact ⟨rfl, rfl⟩
  rw [if_neg h]
  rw [decide_eq_false h] at HC
  go_enter Try.func17, Try.ntmps17
  go_wp2_with ((go_at_call 20; refine (HC.out _).mono ?_; rintro e w1 ⟨rfl, rfl⟩))
  go_ret
  exact ⟨rfl, rfl⟩
def wantO (x : Int) : Int := if InH x then (if x % 2 = 0 then 0 else 2) else 1
theorem wantObject_walk (x : Int) (w : World) :
    Calls Try.prog 11 #[.int .u64 x] w fun e w' => e = .returned (.int .u8 (wantO x)) ∧ w' = w := by
  have HC := hid (fun w => inHeap_walk x w)
  unfold wantO
  by_cases h : InH x
  · rw [if_pos h]
    rw [decide_eq_true h] at HC
    have HD := hid (fun w => onGranule_walk x h w)
    by_cases h2 : x % 2 = 0
    · rw [if_pos h2]
      rw [decide_eq_true h2] at HD
      go_enter Try.func11, Try.ntmps11
      go_wp2_with (first | (go_at_call 20; refine (HC.out _).mono ?_; rintro e w1 ⟨rfl, rfl⟩) | (go_at_call 56; refine (HD.out _).mono ?_; rintro e w1 ⟨rfl, rfl⟩))
      go_ret
      exact ⟨rfl, rfl⟩
    · rw [if_neg h2]
      rw [decide_eq_false h2] at HD
      go_enter Try.func11, Try.ntmps11
      go_wp2_with (first | (go_at_call 20; refine (HC.out _).mono ?_; rintro e w1 ⟨rfl, rfl⟩) | (go_at_call 56; refine (HD.out _).mono ?_; rintro e w1 ⟨rfl, rfl⟩))
      go_ret
      exact ⟨rfl, rfl⟩
  · rw [if_neg h]
    rw [decide_eq_false h] at HC
    go_enter Try.func11, Try.ntmps11
    go_wp2_with (go_at_call 20; refine (HC.out _).mono ?_; rintro e w1 ⟨rfl, rfl⟩)
    go_ret
    exact ⟨rfl, rfl⟩
theorem within_walk (n m : Int) (w : World) :
    Calls Try.prog 37 #[.int .i64 n, .int .i64 m] w fun e w' => e = .returned (.bool (decide (0 ≤ n ∧ n < m))) ∧ w' = w := by
  by_cases h0 : 0 ≤ n
  · have d1 : decide (0 ≤ n) = true := decide_eq_true h0
    by_cases h1 : n < m
    · have d2 : decide (n < m) = true := decide_eq_true h1
      rw [decide_eq_true (And.intro h0 h1)]
      go_enter Try.func37, Try.ntmps37
      go_wp2
      go_ret
      exact ⟨rfl, rfl⟩
    · have d2 : decide (n < m) = false := decide_eq_false h1
      rw [decide_eq_false (fun h => h1 h.2)]
      go_enter Try.func37, Try.ntmps37
      go_wp2
      go_ret
      exact ⟨rfl, rfl⟩
  · have d1 : decide (0 ≤ n) = false := decide_eq_false h0
    rw [decide_eq_false (fun h => h0 h.1)]
    go_enter Try.func37, Try.ntmps37
    go_wp2
    go_ret
    exact ⟨rfl, rfl⟩
theorem validLine_walk (n : Int) (w : World) :
    Calls Try.prog 65 #[.int .i64 n] w fun e w' => e = .returned (.bool (decide (0 ≤ n ∧ n < 2048))) ∧ w' = w := by
  by_cases h0 : 0 ≤ n
  · have d1 : decide (0 ≤ n) = true := decide_eq_true h0
    by_cases h1 : n < 2048
    · have d2 : decide (n < 2048) = true := decide_eq_true h1
      rw [decide_eq_true (And.intro h0 h1)]
      go_enter Try.func65, Try.ntmps65
      go_wp2
      go_ret
      exact ⟨rfl, rfl⟩
    · have d2 : decide (n < 2048) = false := decide_eq_false h1
      rw [decide_eq_false (fun h => h1 h.2)]
      go_enter Try.func65, Try.ntmps65
      go_wp2
      go_ret
      exact ⟨rfl, rfl⟩
  · have d1 : decide (0 ≤ n) = false := decide_eq_false h0
    rw [decide_eq_false (fun h => h0 h.1)]
    go_enter Try.func65, Try.ntmps65
    go_wp2
    go_ret
    exact ⟨rfl, rfl⟩
theorem validBlock_walk (n : Int) (w : World) :
    Calls Try.prog 66 #[.int .i64 n] w fun e w' => e = .returned (.bool (decide (0 ≤ n ∧ n < 64))) ∧ w' = w := by
  by_cases h0 : 0 ≤ n
  · have d1 : decide (0 ≤ n) = true := decide_eq_true h0
    by_cases h1 : n < 64
    · have d2 : decide (n < 64) = true := decide_eq_true h1
      rw [decide_eq_true (And.intro h0 h1)]
      go_enter Try.func66, Try.ntmps66
      go_wp2
      go_ret
      exact ⟨rfl, rfl⟩
    · have d2 : decide (n < 64) = false := decide_eq_false h1
      rw [decide_eq_false (fun h => h1 h.2)]
      go_enter Try.func66, Try.ntmps66
      go_wp2
      go_ret
      exact ⟨rfl, rfl⟩
  · have d1 : decide (0 ≤ n) = false := decide_eq_false h0
    rw [decide_eq_false (fun h => h0 h.1)]
    go_enter Try.func66, Try.ntmps66
    go_wp2
    go_ret
    exact ⟨rfl, rfl⟩
theorem addrOfWord_in (n : Int) (h0 : 0 ≤ n) (h1 : n < 32768) (w : World) :
    Calls Try.prog 32 #[.int .i64 n] w fun e w' => e = .returned (.tuple #[.int .u64 (65536 + n), .int .u8 0]) ∧ w' = w := by
  have d1 : decide (n < 0) = false := decide_eq_false (by omega)
  have d2 : decide (32768 ≤ n) = false := decide_eq_false (by omega)
  go_enter Try.func32, Try.ntmps32
  go_wp2
  go_ret2
  exact ⟨rfl, rfl⟩
theorem addrOfWord_out (n : Int) (h : ¬ (0 ≤ n ∧ n < 32768)) (w : World) :
    Calls Try.prog 32 #[.int .i64 n] w fun e w' => e = .returned (.tuple #[.int .u64 0, .int .u8 1]) ∧ w' = w := by
  by_cases h0 : n < 0
  · have d1 : decide (n < 0) = true := decide_eq_true h0
    go_enter Try.func32, Try.ntmps32
    go_wp2
    go_ret2
    exact ⟨rfl, rfl⟩
  · have d1 : decide (n < 0) = false := decide_eq_false h0
    have d2 : decide (32768 ≤ n) = true := decide_eq_true (by omega)
    go_enter Try.func32, Try.ntmps32
    go_wp2
    go_ret2
    exact ⟨rfl, rfl⟩
theorem addrOfWord_any (n : Int) (w : World) :
    Calls Try.prog 32 #[.int .i64 n] w fun e w' => ∃ v c : Int, e = .returned (.tuple #[.int .u64 v, .int .u8 c]) ∧ (c == 0) = decide (0 ≤ n ∧ n < 32768) ∧ w' = w := by
  by_cases h : 0 ≤ n ∧ n < 32768
  · exact (addrOfWord_in n h.1 h.2 w).mono fun e w' ⟨he, hw⟩ => ⟨_, 0, he, by simp [h], hw⟩
  · exact (addrOfWord_out n h w).mono fun e w' ⟨he, hw⟩ => ⟨_, 1, he, by rw [decide_eq_false h]; rfl, hw⟩
theorem addrOfGranule_in (n : Int) (h0 : 0 ≤ n) (h1 : n < 16384) (w : World) :
    Calls Try.prog 29 #[.int .i64 n] w fun e w' => e = .returned (.tuple #[.int .u64 (65536 + n * 2), .int .u8 0]) ∧ w' = w := by
  have d1 : decide (n < 0) = false := decide_eq_false (by omega)
  have d2 : decide (16384 ≤ n) = false := decide_eq_false (by omega)
  go_enter Try.func29, Try.ntmps29
  go_wp2
  go_ret2
  exact ⟨rfl, rfl⟩
theorem addrOfGranule_out (n : Int) (h : ¬ (0 ≤ n ∧ n < 16384)) (w : World) :
    Calls Try.prog 29 #[.int .i64 n] w fun e w' => e = .returned (.tuple #[.int .u64 0, .int .u8 1]) ∧ w' = w := by
  by_cases h0 : n < 0
  · have d1 : decide (n < 0) = true := decide_eq_true h0
    go_enter Try.func29, Try.ntmps29
    go_wp2
    go_ret2
    exact ⟨rfl, rfl⟩
  · have d1 : decide (n < 0) = false := decide_eq_false h0
    have d2 : decide (16384 ≤ n) = true := decide_eq_true (by omega)
    go_enter Try.func29, Try.ntmps29
    go_wp2
    go_ret2
    exact ⟨rfl, rfl⟩
theorem addrOfGranule_any (n : Int) (w : World) :
    Calls Try.prog 29 #[.int .i64 n] w fun e w' => ∃ v c : Int, e = .returned (.tuple #[.int .u64 v, .int .u8 c]) ∧ (c == 0) = decide (0 ≤ n ∧ n < 16384) ∧ w' = w := by
  by_cases h : 0 ≤ n ∧ n < 16384
  · exact (addrOfGranule_in n h.1 h.2 w).mono fun e w' ⟨he, hw⟩ => ⟨_, 0, he, by simp [h], hw⟩
  · exact (addrOfGranule_out n h w).mono fun e w' ⟨he, hw⟩ => ⟨_, 1, he, by rw [decide_eq_false h]; rfl, hw⟩
theorem addrOfLine_in (n : Int) (h0 : 0 ≤ n) (h1 : n < 2048) (w : World) :
    Calls Try.prog 33 #[.int .i64 n] w fun e w' => e = .returned (.tuple #[.int .u64 (65536 + n * 16), .int .u8 0]) ∧ w' = w := by
  have HC := hid (fun w => validLine_walk n w)
  rw [decide_eq_true (And.intro h0 h1)] at HC
  go_enter Try.func33, Try.ntmps33
  go_wp2_with (go_at_call 65; refine (HC.out _).mono ?_; rintro e w1 ⟨rfl, rfl⟩)
  go_ret2
  exact ⟨rfl, rfl⟩
theorem addrOfLine_out (n : Int) (h : ¬ (0 ≤ n ∧ n < 2048)) (w : World) :
    Calls Try.prog 33 #[.int .i64 n] w fun e w' => e = .returned (.tuple #[.int .u64 0, .int .u8 1]) ∧ w' = w := by
  have HC := hid (fun w => validLine_walk n w)
  rw [decide_eq_false h] at HC
  clear h
  go_enter Try.func33, Try.ntmps33
  go_wp2_with (go_at_call 65; refine (HC.out _).mono ?_; rintro e w1 ⟨rfl, rfl⟩)
  go_ret2
  exact ⟨rfl, rfl⟩
theorem addrOfLine_any (n : Int) (w : World) :
    Calls Try.prog 33 #[.int .i64 n] w fun e w' => ∃ v c : Int, e = .returned (.tuple #[.int .u64 v, .int .u8 c]) ∧ (c == 0) = decide (0 ≤ n ∧ n < 2048) ∧ w' = w := by
  by_cases h : 0 ≤ n ∧ n < 2048
  · exact (addrOfLine_in n h.1 h.2 w).mono fun e w' ⟨he, hw⟩ => ⟨_, 0, he, by simp [h], hw⟩
  · exact (addrOfLine_out n h w).mono fun e w' ⟨he, hw⟩ => ⟨_, 1, he, by rw [decide_eq_false h]; rfl, hw⟩
theorem addrOfBlock_in (n : Int) (h0 : 0 ≤ n) (h1 : n < 64) (w : World) :
    Calls Try.prog 34 #[.int .i64 n] w fun e w' => e = .returned (.tuple #[.int .u64 (65536 + n * 512), .int .u8 0]) ∧ w' = w := by
  have HC := hid (fun w => validBlock_walk n w)
  rw [decide_eq_true (And.intro h0 h1)] at HC
  go_enter Try.func34, Try.ntmps34
  go_wp2_with (go_at_call 66; refine (HC.out _).mono ?_; rintro e w1 ⟨rfl, rfl⟩)
  go_ret2
  exact ⟨rfl, rfl⟩
theorem addrOfBlock_out (n : Int) (h : ¬ (0 ≤ n ∧ n < 64)) (w : World) :
    Calls Try.prog 34 #[.int .i64 n] w fun e w' => e = .returned (.tuple #[.int .u64 0, .int .u8 1]) ∧ w' = w := by
  have HC := hid (fun w => validBlock_walk n w)
  rw [decide_eq_false h] at HC
  clear h
  go_enter Try.func34, Try.ntmps34
  go_wp2_with (go_at_call 66; refine (HC.out _).mono ?_; rintro e w1 ⟨rfl, rfl⟩)
  go_ret2
  exact ⟨rfl, rfl⟩
theorem addrOfBlock_any (n : Int) (w : World) :
    Calls Try.prog 34 #[.int .i64 n] w fun e w' => ∃ v c : Int, e = .returned (.tuple #[.int .u64 v, .int .u8 c]) ∧ (c == 0) = decide (0 ≤ n ∧ n < 64) ∧ w' = w := by
  by_cases h : 0 ≤ n ∧ n < 64
  · exact (addrOfBlock_in n h.1 h.2 w).mono fun e w' ⟨he, hw⟩ => ⟨_, 0, he, by simp [h], hw⟩
  · exact (addrOfBlock_out n h w).mono fun e w' ⟨he, hw⟩ => ⟨_, 1, he, by rw [decide_eq_false h]; rfl, hw⟩
theorem blockOfLine_in (n : Int) (h0 : 0 ≤ n) (h1 : n < 2048) (w : World) :
    Calls Try.prog 35 #[.int .i64 n] w fun e w' => e = .returned (.tuple #[.int .i64 (n / 32), .int .u8 0]) ∧ w' = w := by
  have HC := hid (fun w => validLine_walk n w)
  rw [decide_eq_true (And.intro h0 h1)] at HC
  go_enter Try.func35, Try.ntmps35
  go_wp2_with (go_at_call 65; refine (HC.out _).mono ?_; rintro e w1 ⟨rfl, rfl⟩)
  go_ret2
  exact ⟨rfl, rfl⟩
theorem blockOfLine_out (n : Int) (h : ¬ (0 ≤ n ∧ n < 2048)) (w : World) :
    Calls Try.prog 35 #[.int .i64 n] w fun e w' => e = .returned (.tuple #[.int .i64 0, .int .u8 1]) ∧ w' = w := by
  have HC := hid (fun w => validLine_walk n w)
  rw [decide_eq_false h] at HC
  clear h
  go_enter Try.func35, Try.ntmps35
  go_wp2_with (go_at_call 65; refine (HC.out _).mono ?_; rintro e w1 ⟨rfl, rfl⟩)
  go_ret2
  exact ⟨rfl, rfl⟩
theorem blockOfLine_any (n : Int) (w : World) :
    Calls Try.prog 35 #[.int .i64 n] w fun e w' => ∃ v c : Int, e = .returned (.tuple #[.int .i64 v, .int .u8 c]) ∧ (c == 0) = decide (0 ≤ n ∧ n < 2048) ∧ w' = w := by
  by_cases h : 0 ≤ n ∧ n < 2048
  · exact (blockOfLine_in n h.1 h.2 w).mono fun e w' ⟨he, hw⟩ => ⟨_, 0, he, by simp [h], hw⟩
  · exact (blockOfLine_out n h w).mono fun e w' ⟨he, hw⟩ => ⟨_, 1, he, by rw [decide_eq_false h]; rfl, hw⟩
theorem firstLine_in (n : Int) (h0 : 0 ≤ n) (h1 : n < 64) (w : World) :
    Calls Try.prog 36 #[.int .i64 n] w fun e w' => e = .returned (.tuple #[.int .i64 (n * 32), .int .u8 0]) ∧ w' = w := by
  have HC := hid (fun w => validBlock_walk n w)
  rw [decide_eq_true (And.intro h0 h1)] at HC
  go_enter Try.func36, Try.ntmps36
  go_wp2_with (go_at_call 66; refine (HC.out _).mono ?_; rintro e w1 ⟨rfl, rfl⟩)
  go_ret2
  exact ⟨rfl, rfl⟩
theorem firstLine_out (n : Int) (h : ¬ (0 ≤ n ∧ n < 64)) (w : World) :
    Calls Try.prog 36 #[.int .i64 n] w fun e w' => e = .returned (.tuple #[.int .i64 0, .int .u8 1]) ∧ w' = w := by
  have HC := hid (fun w => validBlock_walk n w)
  rw [decide_eq_false h] at HC
  clear h
  go_enter Try.func36, Try.ntmps36
  go_wp2_with (go_at_call 66; refine (HC.out _).mono ?_; rintro e w1 ⟨rfl, rfl⟩)
  go_ret2
  exact ⟨rfl, rfl⟩
theorem firstLine_any (n : Int) (w : World) :
    Calls Try.prog 36 #[.int .i64 n] w fun e w' => ∃ v c : Int, e = .returned (.tuple #[.int .i64 v, .int .u8 c]) ∧ (c == 0) = decide (0 ≤ n ∧ n < 64) ∧ w' = w := by
  by_cases h : 0 ≤ n ∧ n < 64
  · exact (firstLine_in n h.1 h.2 w).mono fun e w' ⟨he, hw⟩ => ⟨_, 0, he, by simp [h], hw⟩
  · exact (firstLine_out n h w).mono fun e w' ⟨he, hw⟩ => ⟨_, 1, he, by rw [decide_eq_false h]; rfl, hw⟩
end Go.Proofs.Qxb6500887a
