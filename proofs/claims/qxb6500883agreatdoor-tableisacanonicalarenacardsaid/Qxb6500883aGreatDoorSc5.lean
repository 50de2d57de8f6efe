/- powChecked, digitValue. -/
import Derived.Test.Qxb6500883aGreatDoorSc4
namespace Go.Proofs.Qxb6500883aGreatDoor
open Go.RowKit
set_option linter.unusedSimpArgs false
set_option linter.unusedVariables false
/-- The plain power, while it fits. -/
def pwB (b e : Nat) : Bool := decide (b ^ e < 18446744073709551616)
theorem pow_grow {b n : Nat} (hb : 2 ≤ b) (hn : 64 ≤ n) : 18446744073709551616 ≤ b ^ n := by
  have h1 : 2 ^ 64 ≤ 2 ^ n := Nat.pow_le_pow_right (by omega) hn
  have h2 : 2 ^ n ≤ b ^ n := Nat.pow_le_pow_left hb n
  have h3 : (2 : Nat) ^ 64 = 18446744073709551616 := by decide
  omega
set_option maxRecDepth 100000 in
theorem powCheckedW (b n : Nat) (hb : b < 18446744073709551616) (hn : n < 18446744073709551616) (w : World) : Calls Tryz.prog 145 #[.int .u64 (b : Int), .int .u64 (n : Int)] w fun e w' => ∃ (v : Nat) (ok : Bool), e = .returned (.tuple #[.int .u64 (v : Int), .bool ok]) ∧ v < 18446744073709551616 ∧ Hid (ok = pwB b n ∧ (ok = true → v = b ^ n) ∧ Drew w w') := by
  by_cases h0 : n = 0
  · subst h0
    have HF : Hid (true = pwB b 0) := hid (by unfold pwB; rw [Nat.pow_zero]; rfl)
    go_enter Tryz.func145, Tryz.ntmps145
    go_wp2
    go_ret2
    exact ⟨1, true, rfl, by decide, hid ⟨HF.out, fun _ => (Nat.pow_zero b).symm, Drew.refl _⟩⟩
  have d0 : ((n : Int) == 0) = false := by simp; omega
  by_cases h1 : b ≤ 1
  · have e1 : b ^ n = b := by
      have : b = 0 ∨ b = 1 := by omega
      rcases this with rfl | rfl
      · exact Nat.zero_pow (by omega)
      · exact Nat.one_pow n
    have HF : Hid (true = pwB b n ∧ b = b ^ n) := hid ⟨by unfold pwB; rw [e1, decide_eq_true hb], e1.symm⟩
    have d1 : decide ((b : Int) ≤ 1) = true := decide_eq_true (by omega)
    have d1' : decide (b ≤ 1) = true := decide_eq_true h1
    clear e1
    go_enter Tryz.func145, Tryz.ntmps145
    go_wp2
    go_ret2
    exact ⟨b, true, rfl, hb, hid ⟨HF.out.1, fun _ => HF.out.2, Drew.refl _⟩⟩
  have d1 : decide ((b : Int) ≤ 1) = false := decide_eq_false (by omega)
  have d1' : decide (b ≤ 1) = false := decide_eq_false h1
  by_cases h2 : 64 ≤ n
  · have HF : Hid (false = pwB b n) := hid (by unfold pwB; rw [decide_eq_false (by have := pow_grow (b := b) (n := n) (by omega) h2; omega)])
    have d2 : decide ((64 : Int) ≤ (n : Int)) = true := decide_eq_true (by omega)
    have d2' : decide (64 ≤ n) = true := decide_eq_true h2
    have d3 : decide ((n : Int) ≥ 64) = true := d2
    go_enter Tryz.func145, Tryz.ntmps145
    go_wp2
    go_ret2
    exact ⟨0, false, rfl, by decide, hid ⟨HF.out, (fun h => by cases h), Drew.refl _⟩⟩
  have d2 : decide ((64 : Int) ≤ (n : Int)) = false := decide_eq_false (by omega)
  have d2' : decide (64 ≤ n) = false := decide_eq_false h2
  have d3 : decide ((n : Int) ≥ 64) = false := d2
  have HM := hid (fun (r : Nat) (hr : r < 18446744073709551616) (wz : World) => mulCheckedW r b hr hb wz)
  go_enter Tryz.func145, Tryz.ntmps145
  go_upto_region 8 with fail
  go_loopw [1, 6] (fun t u wr => ∃ m r : Nat, t = .int .u64 (m : Int) ∧ u = .int .u64 (r : Int) ∧ m ≤ n ∧ r < 18446744073709551616 ∧ Hid (r = b ^ (n - m) ∧ Drew w wr)) (fun t _ _ => (intOf t).toNat)
  case atStart => exact ⟨n, 1, rfl, rfl, Nat.le_refl _, by decide, hid ⟨by rw [Nat.sub_self, Nat.pow_zero], Drew.refl _⟩⟩
  case round =>
  obtain ⟨m, r, rfl, rfl, hm, hr, HK⟩ := hrel
  by_cases hm0 : m = 0
  · as_aux_lemma =>
    have d4 : decide ((0 : Int) < (m : Int)) = false := decide_eq_false (by omega)
    have d5 : decide (0 < m) = false := decide_eq_false (by omega)
    have d6 : decide ((m : Int) > 0) = false := d4
    have HF : Hid (true = pwB b n ∧ r = b ^ n) := hid (by
      have h := HK.out.1
      rw [hm0, Nat.sub_zero] at h
      refine ⟨?_, h⟩
      unfold pwB
      rw [← h, decide_eq_true hr])
    go_wp2
    go_ret2
    exact ⟨r, true, rfl, hr, hid ⟨HF.out.1, fun _ => HF.out.2, HK.out.2⟩⟩
  have d4 : decide ((0 : Int) < (m : Int)) = true := decide_eq_true (by omega)
  have d5 : decide (0 < m) = true := decide_eq_true (by omega)
  have d6 : decide ((m : Int) > 0) = true := d4
  have HC := hid (HM.out r hr wr)
  have hpow : b ^ (n - (m - 1)) = r * b := by
    rw [show n - (m - 1) = n - m + 1 by omega, Nat.pow_succ, ← HK.out.1]
  obtain ⟨k, hk⟩ : ∃ k, m - 1 = k := ⟨_, rfl⟩
  have ek : (m : Int) - 1 = (k : Int) := by omega
  rw [hk] at hpow
  have hkm : k < m := by omega
  by_cases hl : r * b < 18446744073709551616
  · as_aux_lemma =>
    rw [decide_eq_true hl, Nat.mod_eq_of_lt hl] at HC
    obtain ⟨q, hq⟩ : ∃ q, r * b = q := ⟨_, rfl⟩
    rw [hq] at HC hl hpow
    have HP := hid hpow
    clear hq hpow hk
    go_wp2_with fail
    refine HC.out.mono ?_
    rintro e w2 ⟨rfl, hd2⟩
    have HD := hid (HK.out.2.trans hd2)
    clear hd2 HC HK
    go_wp2
    exact ⟨⟨k, q, by first | rfl | go_num, rfl, by omega, hl, hid ⟨HP.out.symm, HD.out⟩⟩, by simp [intOf]; omega⟩
  · as_aux_lemma =>
    rw [decide_eq_false hl] at HC
    have HF : Hid (false = pwB b n) := hid (by
      unfold pwB
      rw [decide_eq_false ?_]
      have : b ^ (n - k) ≤ b ^ n := Nat.pow_le_pow_right (by omega) (by omega)
      omega)
    generalize r * b % 18446744073709551616 = q at HC
    clear hpow hk
    go_wp2_with fail
    refine HC.out.mono ?_
    rintro e w2 ⟨rfl, hd2⟩
    have HD := hid (HK.out.2.trans hd2)
    clear hd2 HC HK
    go_wp2
    go_ret2
    exact ⟨0, false, rfl, by decide, hid ⟨HF.out, (fun h => by cases h), HD.out⟩⟩
end Go.Proofs.Qxb6500883aGreatDoor
