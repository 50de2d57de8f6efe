/- Letters, blanks; checked arithmetic (written by tools/mk_sc2.py). -/
import Derived.Test.Qxb6500883aGreatDoorSc1
namespace Go.Proofs.Qxb6500883aGreatDoor
open Go.RowKit
set_option linter.unusedSimpArgs false
set_option linter.unusedVariables false
theorem isLetterW (c : Nat) (hc : c < 256) (w : World) : Calls Tryz.prog 106 #[.int .u8 (c : Int)] w fun e w' => e = .returned (.bool (ltB c)) ∧ w' = w := by
  have hr : (0 ≤ c ∧ c ≤ 64) ∨ (65 ≤ c ∧ c ≤ 90) ∨ (91 ≤ c ∧ c ≤ 94) ∨ (95 ≤ c ∧ c ≤ 95) ∨ (96 ≤ c ∧ c ≤ 96) ∨ (97 ≤ c ∧ c ≤ 122) ∨ (123 ≤ c ∧ c ≤ 255) := by omega
  rcases hr with hr | hr | hr | hr | hr | hr | hr
  · as_aux_lemma =>
    have d0 : decide ((97 : Int) ≤ (c : Int)) = false := decide_eq_false (by omega)
    have e0 : decide (97 ≤ c) = false := decide_eq_false (by omega)
    have d1 : decide ((c : Int) ≤ 122) = true := decide_eq_true (by omega)
    have e1 : decide (c ≤ 122) = true := decide_eq_true (by omega)
    have d2 : decide ((65 : Int) ≤ (c : Int)) = false := decide_eq_false (by omega)
    have e2 : decide (65 ≤ c) = false := decide_eq_false (by omega)
    have d3 : decide ((c : Int) ≤ 90) = true := decide_eq_true (by omega)
    have e3 : decide (c ≤ 90) = true := decide_eq_true (by omega)
    have q95 : ((c : Int) == 95) = false := by simp; omega
    have r95 : (c == 95) = false := by simp; omega
    have hv : ltB c = false := by unfold ltB; simp only [e0 , e1 , e2 , e3 , r95]; rfl
    rw [hv]
    clear hv
    go_enter Tryz.func106, Tryz.ntmps106
    go_wp2
    go_ret
    exact ⟨rfl, rfl⟩
  · as_aux_lemma =>
    have d0 : decide ((97 : Int) ≤ (c : Int)) = false := decide_eq_false (by omega)
    have e0 : decide (97 ≤ c) = false := decide_eq_false (by omega)
    have d1 : decide ((c : Int) ≤ 122) = true := decide_eq_true (by omega)
    have e1 : decide (c ≤ 122) = true := decide_eq_true (by omega)
    have d2 : decide ((65 : Int) ≤ (c : Int)) = true := decide_eq_true (by omega)
    have e2 : decide (65 ≤ c) = true := decide_eq_true (by omega)
    have d3 : decide ((c : Int) ≤ 90) = true := decide_eq_true (by omega)
    have e3 : decide (c ≤ 90) = true := decide_eq_true (by omega)
    have q95 : ((c : Int) == 95) = false := by simp; omega
    have r95 : (c == 95) = false := by simp; omega
    have hv : ltB c = true := by unfold ltB; simp only [e0 , e1 , e2 , e3 , r95]; rfl
    rw [hv]
    clear hv
    go_enter Tryz.func106, Tryz.ntmps106
    go_wp2
    go_ret
    exact ⟨rfl, rfl⟩
  · as_aux_lemma =>
    have d0 : decide ((97 : Int) ≤ (c : Int)) = false := decide_eq_false (by omega)
    have e0 : decide (97 ≤ c) = false := decide_eq_false (by omega)
    have d1 : decide ((c : Int) ≤ 122) = true := decide_eq_true (by omega)
    have e1 : decide (c ≤ 122) = true := decide_eq_true (by omega)
    have d2 : decide ((65 : Int) ≤ (c : Int)) = true := decide_eq_true (by omega)
    have e2 : decide (65 ≤ c) = true := decide_eq_true (by omega)
    have d3 : decide ((c : Int) ≤ 90) = false := decide_eq_false (by omega)
    have e3 : decide (c ≤ 90) = false := decide_eq_false (by omega)
    have q95 : ((c : Int) == 95) = false := by simp; omega
    have r95 : (c == 95) = false := by simp; omega
    have hv : ltB c = false := by unfold ltB; simp only [e0 , e1 , e2 , e3 , r95]; rfl
    rw [hv]
    clear hv
    go_enter Tryz.func106, Tryz.ntmps106
    go_wp2
    go_ret
    exact ⟨rfl, rfl⟩
  · as_aux_lemma =>
    have d0 : decide ((97 : Int) ≤ (c : Int)) = false := decide_eq_false (by omega)
    have e0 : decide (97 ≤ c) = false := decide_eq_false (by omega)
    have d1 : decide ((c : Int) ≤ 122) = true := decide_eq_true (by omega)
    have e1 : decide (c ≤ 122) = true := decide_eq_true (by omega)
    have d2 : decide ((65 : Int) ≤ (c : Int)) = true := decide_eq_true (by omega)
    have e2 : decide (65 ≤ c) = true := decide_eq_true (by omega)
    have d3 : decide ((c : Int) ≤ 90) = false := decide_eq_false (by omega)
    have e3 : decide (c ≤ 90) = false := decide_eq_false (by omega)
    have q95 : ((c : Int) == 95) = true := by simp; omega
    have r95 : (c == 95) = true := by simp; omega
    have hv : ltB c = true := by unfold ltB; simp only [e0 , e1 , e2 , e3 , r95]; rfl
    rw [hv]
    clear hv
    go_enter Tryz.func106, Tryz.ntmps106
    go_wp2
    go_ret
    exact ⟨rfl, rfl⟩
  · as_aux_lemma =>
    have d0 : decide ((97 : Int) ≤ (c : Int)) = false := decide_eq_false (by omega)
    have e0 : decide (97 ≤ c) = false := decide_eq_false (by omega)
    have d1 : decide ((c : Int) ≤ 122) = true := decide_eq_true (by omega)
    have e1 : decide (c ≤ 122) = true := decide_eq_true (by omega)
    have d2 : decide ((65 : Int) ≤ (c : Int)) = true := decide_eq_true (by omega)
    have e2 : decide (65 ≤ c) = true := decide_eq_true (by omega)
    have d3 : decide ((c : Int) ≤ 90) = false := decide_eq_false (by omega)
    have e3 : decide (c ≤ 90) = false := decide_eq_false (by omega)
    have q95 : ((c : Int) == 95) = false := by simp; omega
    have r95 : (c == 95) = false := by simp; omega
    have hv : ltB c = false := by unfold ltB; simp only [e0 , e1 , e2 , e3 , r95]; rfl
    rw [hv]
    clear hv
    go_enter Tryz.func106, Tryz.ntmps106
    go_wp2
    go_ret
    exact ⟨rfl, rfl⟩
  · as_aux_lemma =>
    have d0 : decide ((97 : Int) ≤ (c : Int)) = true := decide_eq_true (by omega)
    have e0 : decide (97 ≤ c) = true := decide_eq_true (by omega)
    have d1 : decide ((c : Int) ≤ 122) = true := decide_eq_true (by omega)
    have e1 : decide (c ≤ 122) = true := decide_eq_true (by omega)
    have d2 : decide ((65 : Int) ≤ (c : Int)) = true := decide_eq_true (by omega)
    have e2 : decide (65 ≤ c) = true := decide_eq_true (by omega)
    have d3 : decide ((c : Int) ≤ 90) = false := decide_eq_false (by omega)
    have e3 : decide (c ≤ 90) = false := decide_eq_false (by omega)
    have q95 : ((c : Int) == 95) = false := by simp; omega
    have r95 : (c == 95) = false := by simp; omega
    have hv : ltB c = true := by unfold ltB; simp only [e0 , e1 , e2 , e3 , r95]; rfl
    rw [hv]
    clear hv
    go_enter Tryz.func106, Tryz.ntmps106
    go_wp2
    go_ret
    exact ⟨rfl, rfl⟩
  · as_aux_lemma =>
    have d0 : decide ((97 : Int) ≤ (c : Int)) = true := decide_eq_true (by omega)
    have e0 : decide (97 ≤ c) = true := decide_eq_true (by omega)
    have d1 : decide ((c : Int) ≤ 122) = false := decide_eq_false (by omega)
    have e1 : decide (c ≤ 122) = false := decide_eq_false (by omega)
    have d2 : decide ((65 : Int) ≤ (c : Int)) = true := decide_eq_true (by omega)
    have e2 : decide (65 ≤ c) = true := decide_eq_true (by omega)
    have d3 : decide ((c : Int) ≤ 90) = false := decide_eq_false (by omega)
    have e3 : decide (c ≤ 90) = false := decide_eq_false (by omega)
    have q95 : ((c : Int) == 95) = false := by simp; omega
    have r95 : (c == 95) = false := by simp; omega
    have hv : ltB c = false := by unfold ltB; simp only [e0 , e1 , e2 , e3 , r95]; rfl
    rw [hv]
    clear hv
    go_enter Tryz.func106, Tryz.ntmps106
    go_wp2
    go_ret
    exact ⟨rfl, rfl⟩
theorem isSpaceW (c : Nat) (hc : c < 256) (w : World) : Calls Tryz.prog 127 #[.int .u8 (c : Int)] w fun e w' => e = .returned (.bool (spB c)) ∧ w' = w := by
  have hr : (0 ≤ c ∧ c ≤ 8) ∨ (9 ≤ c ∧ c ≤ 9) ∨ (10 ≤ c ∧ c ≤ 10) ∨ (11 ≤ c ∧ c ≤ 12) ∨ (13 ≤ c ∧ c ≤ 13) ∨ (14 ≤ c ∧ c ≤ 31) ∨ (32 ≤ c ∧ c ≤ 32) ∨ (33 ≤ c ∧ c ≤ 255) := by omega
  rcases hr with hr | hr | hr | hr | hr | hr | hr | hr
  · as_aux_lemma =>
    have q9 : ((c : Int) == 9) = false := by simp; omega
    have r9 : (c == 9) = false := by simp; omega
    have q10 : ((c : Int) == 10) = false := by simp; omega
    have r10 : (c == 10) = false := by simp; omega
    have q13 : ((c : Int) == 13) = false := by simp; omega
    have r13 : (c == 13) = false := by simp; omega
    have q32 : ((c : Int) == 32) = false := by simp; omega
    have r32 : (c == 32) = false := by simp; omega
    have hv : spB c = false := by unfold spB; simp only [r9 , r10 , r13 , r32]; rfl
    rw [hv]
    clear hv
    go_enter Tryz.func127, Tryz.ntmps127
    go_wp2
    go_ret
    exact ⟨rfl, rfl⟩
  · as_aux_lemma =>
    have q9 : ((c : Int) == 9) = true := by simp; omega
    have r9 : (c == 9) = true := by simp; omega
    have q10 : ((c : Int) == 10) = false := by simp; omega
    have r10 : (c == 10) = false := by simp; omega
    have q13 : ((c : Int) == 13) = false := by simp; omega
    have r13 : (c == 13) = false := by simp; omega
    have q32 : ((c : Int) == 32) = false := by simp; omega
    have r32 : (c == 32) = false := by simp; omega
    have hv : spB c = true := by unfold spB; simp only [r9 , r10 , r13 , r32]; rfl
    rw [hv]
    clear hv
    go_enter Tryz.func127, Tryz.ntmps127
    go_wp2
    go_ret
    exact ⟨rfl, rfl⟩
  · as_aux_lemma =>
    have q9 : ((c : Int) == 9) = false := by simp; omega
    have r9 : (c == 9) = false := by simp; omega
    have q10 : ((c : Int) == 10) = true := by simp; omega
    have r10 : (c == 10) = true := by simp; omega
    have q13 : ((c : Int) == 13) = false := by simp; omega
    have r13 : (c == 13) = false := by simp; omega
    have q32 : ((c : Int) == 32) = false := by simp; omega
    have r32 : (c == 32) = false := by simp; omega
    have hv : spB c = true := by unfold spB; simp only [r9 , r10 , r13 , r32]; rfl
    rw [hv]
    clear hv
    go_enter Tryz.func127, Tryz.ntmps127
    go_wp2
    go_ret
    exact ⟨rfl, rfl⟩
  · as_aux_lemma =>
    have q9 : ((c : Int) == 9) = false := by simp; omega
    have r9 : (c == 9) = false := by simp; omega
    have q10 : ((c : Int) == 10) = false := by simp; omega
    have r10 : (c == 10) = false := by simp; omega
    have q13 : ((c : Int) == 13) = false := by simp; omega
    have r13 : (c == 13) = false := by simp; omega
    have q32 : ((c : Int) == 32) = false := by simp; omega
    have r32 : (c == 32) = false := by simp; omega
    have hv : spB c = false := by unfold spB; simp only [r9 , r10 , r13 , r32]; rfl
    rw [hv]
    clear hv
    go_enter Tryz.func127, Tryz.ntmps127
    go_wp2
    go_ret
    exact ⟨rfl, rfl⟩
  · as_aux_lemma =>
    have q9 : ((c : Int) == 9) = false := by simp; omega
    have r9 : (c == 9) = false := by simp; omega
    have q10 : ((c : Int) == 10) = false := by simp; omega
    have r10 : (c == 10) = false := by simp; omega
    have q13 : ((c : Int) == 13) = true := by simp; omega
    have r13 : (c == 13) = true := by simp; omega
    have q32 : ((c : Int) == 32) = false := by simp; omega
    have r32 : (c == 32) = false := by simp; omega
    have hv : spB c = true := by unfold spB; simp only [r9 , r10 , r13 , r32]; rfl
    rw [hv]
    clear hv
    go_enter Tryz.func127, Tryz.ntmps127
    go_wp2
    go_ret
    exact ⟨rfl, rfl⟩
  · as_aux_lemma =>
    have q9 : ((c : Int) == 9) = false := by simp; omega
    have r9 : (c == 9) = false := by simp; omega
    have q10 : ((c : Int) == 10) = false := by simp; omega
    have r10 : (c == 10) = false := by simp; omega
    have q13 : ((c : Int) == 13) = false := by simp; omega
    have r13 : (c == 13) = false := by simp; omega
    have q32 : ((c : Int) == 32) = false := by simp; omega
    have r32 : (c == 32) = false := by simp; omega
    have hv : spB c = false := by unfold spB; simp only [r9 , r10 , r13 , r32]; rfl
    rw [hv]
    clear hv
    go_enter Tryz.func127, Tryz.ntmps127
    go_wp2
    go_ret
    exact ⟨rfl, rfl⟩
  · as_aux_lemma =>
    have q9 : ((c : Int) == 9) = false := by simp; omega
    have r9 : (c == 9) = false := by simp; omega
    have q10 : ((c : Int) == 10) = false := by simp; omega
    have r10 : (c == 10) = false := by simp; omega
    have q13 : ((c : Int) == 13) = false := by simp; omega
    have r13 : (c == 13) = false := by simp; omega
    have q32 : ((c : Int) == 32) = true := by simp; omega
    have r32 : (c == 32) = true := by simp; omega
    have hv : spB c = true := by unfold spB; simp only [r9 , r10 , r13 , r32]; rfl
    rw [hv]
    clear hv
    go_enter Tryz.func127, Tryz.ntmps127
    go_wp2
    go_ret
    exact ⟨rfl, rfl⟩
  · as_aux_lemma =>
    have q9 : ((c : Int) == 9) = false := by simp; omega
    have r9 : (c == 9) = false := by simp; omega
    have q10 : ((c : Int) == 10) = false := by simp; omega
    have r10 : (c == 10) = false := by simp; omega
    have q13 : ((c : Int) == 13) = false := by simp; omega
    have r13 : (c == 13) = false := by simp; omega
    have q32 : ((c : Int) == 32) = false := by simp; omega
    have r32 : (c == 32) = false := by simp; omega
    have hv : spB c = false := by unfold spB; simp only [r9 , r10 , r13 , r32]; rfl
    rw [hv]
    clear hv
    go_enter Tryz.func127, Tryz.ntmps127
    go_wp2
    go_ret
    exact ⟨rfl, rfl⟩
theorem isWordW (c : Nat) (hc : c < 256) (w : World) : Calls Tryz.prog 128 #[.int .u8 (c : Int)] w fun e w' => e = .returned (.bool (wdB c)) ∧ w' = w := by
  unfold wdB
  have HL := hid (isLetterW c hc w)
  have HD := hid (isDigitW c hc w)
  generalize dgB c = y at *
  cases hx : ltB c with
  | true =>
    rw [hx] at HL
    clear hx
    go_enter Tryz.func128, Tryz.ntmps128
    (go_wp2_with fail; refine HL.out.mono ?_; rintro e_ w_ ⟨he_, hw_⟩; subst he_; have hs_ := hw_.symm; clear hw_; subst hs_)
    go_wp2
    go_ret
    exact ⟨rfl, rfl⟩
  | false =>
    rw [hx] at HL
    clear hx
    go_enter Tryz.func128, Tryz.ntmps128
    (go_wp2_with fail; refine HL.out.mono ?_; rintro e_ w_ ⟨he_, hw_⟩; subst he_; have hs_ := hw_.symm; clear hw_; subst hs_)
    (go_wp2_with fail; refine HD.out.mono ?_; rintro e_ w_ ⟨he_, hw_⟩; subst he_; have hs_ := hw_.symm; clear hw_; subst hs_)
    go_wp2
    go_ret
    exact ⟨rfl, rfl⟩
theorem subCheckedW (a b : Nat) (ha : a < 18446744073709551616) (hb : b < 18446744073709551616) (w : World) : Calls Tryz.prog 144 #[.int .u64 (a : Int), .int .u64 (b : Int)] w fun e w' => ∃ s : Nat, e = .returned (.tuple #[.int .u64 (s : Int), .bool (decide (b ≤ a))]) ∧ s < 18446744073709551616 ∧ w' = w := by
  obtain ⟨s, hs⟩ : ∃ s : Nat, IntKind.u64.wrap ((a : Int) - (b : Int)) = (s : Int) := ⟨(IntKind.u64.wrap ((a : Int) - (b : Int))).toNat, by rw [IntKind.wrap_u64]; omega⟩
  have hsb : s < 18446744073709551616 := by rw [IntKind.wrap_u64] at hs; omega
  obtain ⟨d, hd⟩ : ∃ d, decide (b ≤ a) = d := ⟨_, rfl⟩
  rw [hd]
  have d1 : decide ((b : Int) ≤ (a : Int)) = d := by rw [← hd]; exact decide_eq_decide.2 (by omega)
  have d2 : decide ((a : Int) ≥ (b : Int)) = d := d1
  go_enter Tryz.func144, Tryz.ntmps144
  go_wp2
  go_ret2
  exact ⟨s, by first | rfl | simp [hs], hsb, rfl⟩
theorem ceilDivW (n d : Nat) (hn : n < 18446744073709551616) (h0 : 1 ≤ d) (hd : d < 18446744073709551616) (w : World) : Calls Tryz.prog 152 #[.int .u64 (n : Int), .int .u64 (d : Int)] w fun e w' => e = .returned (.int .u64 (((n + d - 1) / d : Nat) : Int)) ∧ w' = w := by
  obtain ⟨q, hq⟩ : ∃ q, n / d = q := ⟨_, rfl⟩
  obtain ⟨r, hr⟩ : ∃ r, n % d = r := ⟨_, rfl⟩
  have hm : d * q + r = n := by rw [← hq, ← hr]; exact Nat.div_add_mod n d
  have hrd : r < d := by rw [← hr]; exact Nat.mod_lt _ (by omega)
  have eq : (n : Int) / (d : Int) = (q : Int) := by rw [← hq]; exact (Int.natCast_ediv n d).symm
  have er : (n : Int) % (d : Int) = (r : Int) := by rw [← hr]; exact (Int.natCast_emod n d).symm
  have hqb : q ≤ n := by rw [← hq]; exact Nat.div_le_self _ _
  have dz : ((d : Int) == 0) = false := by simp; omega
  have dz2 : ¬ ((d : Int) = 0) := by omega
  by_cases h1 : r = 0
  · have e : (n + d - 1) / d = q := by
      rw [← hm, h1, show d * q + 0 + d - 1 = d * q + (d - 1) by omega, Nat.mul_add_div (by omega), Nat.div_eq_of_lt (by omega), Nat.add_zero]
    rw [e]
    have d1 : ((r : Int) == 0) = true := by simp [h1]
    have d2 : ((r : Int) != 0) = false := by simp [h1]
    clear hq hr hm e
    go_enter Tryz.func152, Tryz.ntmps152
    go_wp2
    go_ret
    exact ⟨rfl, rfl⟩
  · have e : (n + d - 1) / d = q + 1 := by
      rw [← hm, show d * q + r + d - 1 = d * (q + 1) + (r - 1) by rw [Nat.mul_add]; omega, Nat.mul_add_div (by omega), Nat.div_eq_of_lt (by omega), Nat.add_zero]
    obtain ⟨q1, hq1⟩ : ∃ q1, q + 1 = q1 := ⟨_, rfl⟩
    rw [e, hq1]
    have eq1 : (q : Int) + 1 = (q1 : Int) := by omega
    have hq2 : q1 < 18446744073709551616 := by
      by_cases hd1 : d = 1
      · omega
      · have : 2 * q ≤ d * q := Nat.mul_le_mul_right _ (by omega)
        omega
    have d1 : ((r : Int) == 0) = false := by simp; omega
    have d2 : ((r : Int) != 0) = true := by simp; omega
    clear hq hr hm e hq1
    go_enter Tryz.func152, Tryz.ntmps152
    go_wp2
    go_ret
    exact ⟨rfl, rfl⟩
end Go.Proofs.Qxb6500883aGreatDoor
