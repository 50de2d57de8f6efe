/- More of arena/addr.go: bounds, references, lines, blocks, places. -/
import Derived.Test.Qxb6500887aGreatArAddr
namespace Go.Proofs.Qxb6500887aGreat
open Go.RowKit
set_option linter.unusedSimpArgs false
set_option linter.unusedVariables false

def BoundPost (x : Int) (w : World) (e : Ending) (w' : World) : Prop := ∃ v c : Int, e = .returned (.tuple #[.int .i64 v, .int .u8 c]) ∧ (c == 0) = (decide (InH x) || (x == 98304)) ∧ w' = w
theorem boundIndex_walk (x : Int) (w : World) : Calls Tryz.prog 275 #[.int .u64 x] w (BoundPost x w) := by
  by_cases h : x = 98304
  · have d : (x == 98304) = true := by simp [h]
    go_enter Tryz.func275, Tryz.ntmps275
    go_wp2
    go_ret2
    exact ⟨_, 0, rfl, by simp [h], rfl⟩
  · have d : (x == 98304) = false := by simp [h]
    by_cases hi : InH x
    · have HC := hid (fun w => wordIndex_in x hi w)
      have HI := hid hi
      clear hi h
      go_enter Tryz.func275, Tryz.ntmps275
      go_wp2_with (go_at_call 141; refine (HC.out _).mono ?_; rintro e w1 ⟨rfl, rfl⟩)
      go_ret2
      exact ⟨_, 0, rfl, by rw [decide_eq_true HI.out]; rfl, rfl⟩
    · have HC := hid (fun w => wordIndex_out x hi w)
      have HI := hid hi
      have HD := hid d
      clear hi h
      go_enter Tryz.func275, Tryz.ntmps275
      go_wp2_with (go_at_call 141; refine (HC.out _).mono ?_; rintro e w1 ⟨rfl, rfl⟩)
      go_ret2
      exact ⟨_, 1, rfl, by rw [decide_eq_false HI.out, HD.out]; rfl, rfl⟩

def RefPost (x : Int) (w : World) (e : Ending) (w' : World) : Prop := ∃ v c : Int, e = .returned (.tuple #[.int .u64 v, .int .u8 c]) ∧ (c == 0) = ((x == 0) || (wantO x == 0)) ∧ (c = 0 → v = x) ∧ w' = w
theorem checkRef_walk (x : Int) (w : World) : Calls Tryz.prog 148 #[.int .u64 x] w (RefPost x w) := by
  by_cases h : x = 0
  · subst h
    go_enter Tryz.func148, Tryz.ntmps148
    go_wp2
    go_ret2
    exact ⟨_, 0, rfl, by simp, fun _ => rfl, rfl⟩
  · have d : (x == 0) = false := by simp [h]
    have HD := hid d
    by_cases hi : InH x
    · by_cases he : x % 2 = 0
      · have HC := hid (fun w => granule_ok x hi he w)
        have HW : Hid (wantO x = 0) := hid (by simp [wantO, hi, he])
        clear hi h he
        go_enter Tryz.func148, Tryz.ntmps148
        go_wp2_with (go_at_call 139; refine (HC.out _).mono ?_; rintro e w1 ⟨rfl, rfl⟩)
        go_ret2
        exact ⟨_, 0, rfl, by rw [HW.out]; simp, fun _ => rfl, rfl⟩
      · have HC := hid (fun w => granule_odd x hi he w)
        have HW : Hid (wantO x = 2) := hid (by simp [wantO, hi, he])
        clear hi h he
        go_enter Tryz.func148, Tryz.ntmps148
        go_wp2_with (go_at_call 139; refine (HC.out _).mono ?_; rintro e w1 ⟨rfl, rfl⟩)
        go_ret2
        exact ⟨_, 9, rfl, by rw [HW.out, HD.out]; rfl, fun h => absurd h (by omega), rfl⟩
    · have HC := hid (fun w => granule_out x hi w)
      have HW : Hid (wantO x = 1) := hid (by simp [wantO, hi])
      clear hi h
      go_enter Tryz.func148, Tryz.ntmps148
      go_wp2_with (go_at_call 139; refine (HC.out _).mono ?_; rintro e w1 ⟨rfl, rfl⟩)
      go_ret2
      exact ⟨_, 9, rfl, by rw [HW.out, HD.out]; rfl, fun h => absurd h (by omega), rfl⟩

theorem linesFor_in (n : Int) (h0 : 1 ≤ n) (h1 : n ≤ 32768) (w : World) :
    Calls Tryz.prog 272 #[.int .i64 n] w fun e w' => e = .returned (.tuple #[.int .i64 ((n + 15) / 16), .int .u8 0]) ∧ w' = w := by
  have d1 : decide (n < 1) = false := decide_eq_false (by omega)
  have d2 : decide (32768 < n) = false := decide_eq_false (by omega)
  have HE : Hid ((n + 16 - 1) / 16 = (n + 15) / 16) := hid (by omega)
  go_enter Tryz.func272, Tryz.ntmps272
  go_wp2
  go_ret2
  exact ⟨by rw [← HE.out]; rfl, rfl⟩
theorem linesFor_out (n : Int) (h : ¬ (1 ≤ n ∧ n ≤ 32768)) (w : World) :
    Calls Tryz.prog 272 #[.int .i64 n] w fun e w' => e = .returned (.tuple #[.int .i64 0, .int .u8 4]) ∧ w' = w := by
  by_cases h0 : n < 1
  · have d1 : decide (n < 1) = true := decide_eq_true h0
    go_enter Tryz.func272, Tryz.ntmps272
    go_wp2
    go_ret2
    exact ⟨rfl, rfl⟩
  · have d1 : decide (n < 1) = false := decide_eq_false h0
    have d2 : decide (32768 < n) = true := decide_eq_true (by omega)
    go_enter Tryz.func272, Tryz.ntmps272
    go_wp2
    go_ret2
    exact ⟨rfl, rfl⟩
theorem blocksFor_in (n : Int) (h0 : 1 ≤ n) (h1 : n ≤ 32768) (w : World) :
    Calls Tryz.prog 273 #[.int .i64 n] w fun e w' => e = .returned (.tuple #[.int .i64 ((n + 511) / 512), .int .u8 0]) ∧ w' = w := by
  have d1 : decide (n < 1) = false := decide_eq_false (by omega)
  have d2 : decide (32768 < n) = false := decide_eq_false (by omega)
  have HE : Hid ((n + 512 - 1) / 512 = (n + 511) / 512) := hid (by omega)
  go_enter Tryz.func273, Tryz.ntmps273
  go_wp2
  go_ret2
  exact ⟨by rw [← HE.out]; rfl, rfl⟩
theorem blocksFor_out (n : Int) (h : ¬ (1 ≤ n ∧ n ≤ 32768)) (w : World) :
    Calls Tryz.prog 273 #[.int .i64 n] w fun e w' => e = .returned (.tuple #[.int .i64 0, .int .u8 4]) ∧ w' = w := by
  by_cases h0 : n < 1
  · have d1 : decide (n < 1) = true := decide_eq_true h0
    go_enter Tryz.func273, Tryz.ntmps273
    go_wp2
    go_ret2
    exact ⟨rfl, rfl⟩
  · have d1 : decide (n < 1) = false := decide_eq_false h0
    have d2 : decide (32768 < n) = true := decide_eq_true (by omega)
    go_enter Tryz.func273, Tryz.ntmps273
    go_wp2
    go_ret2
    exact ⟨rfl, rfl⟩

theorem decode_ok (x : Int) (h : InH x) (w : World) :
    Calls Tryz.prog 246 #[.int .u64 x] w fun e w' => e = .returned (.tuple #[.agg #[.int .i64 (x - 65536), .int .i64 ((x - 65536) / 512), .int .i64 ((x - 65536) / 16), .int .i64 ((x - 65536) / 16 % 32), .int .i64 ((x - 65536) % 16)], .int .u8 0]) ∧ Below w.heap.size w w' := by
  have HC := hid (fun w => wordIndex_in x h w)
  obtain ⟨h0, h1⟩ := h
  go_enter Tryz.func246, Tryz.ntmps246
  go_wp2_with (go_at_call 141; refine (HC.out _).mono ?_; rintro e w1 ⟨rfl, hw1⟩; subst hw1)
  exact bodyPost_ret (v := .tuple #[.agg #[.int .i64 (x - 65536), .int .i64 ((x - 65536) / 512), .int .i64 ((x - 65536) / 16), .int .i64 ((x - 65536) / 16 % 32), .int .i64 ((x - 65536) % 16)], .int .u8 0]) (by simp [results, Tryz.results246, go_sem]) rfl ⟨rfl, Below.alloc (Below.refl _ _) (Nat.le_refl _) _⟩
theorem decode_no (x : Int) (h : ¬ InH x) (w : World) :
    Calls Tryz.prog 246 #[.int .u64 x] w fun e w' => e = .returned (.tuple #[.agg #[.int .i64 0, .int .i64 0, .int .i64 0, .int .i64 0, .int .i64 0], .int .u8 1]) ∧ Below w.heap.size w w' := by
  have HC := hid (fun w => wordIndex_out x h w)
  clear h
  go_enter Tryz.func246, Tryz.ntmps246
  go_wp2_with (go_at_call 141; refine (HC.out _).mono ?_; rintro e w1 ⟨rfl, hw1⟩; subst hw1)
  exact bodyPost_ret (v := .tuple #[.agg #[.int .i64 0, .int .i64 0, .int .i64 0, .int .i64 0, .int .i64 0], .int .u8 1]) (by simp [results, Tryz.results246, go_sem]) rfl ⟨rfl, Below.alloc (Below.refl _ _) (Nat.le_refl _) _⟩
end Go.Proofs.Qxb6500887aGreat
