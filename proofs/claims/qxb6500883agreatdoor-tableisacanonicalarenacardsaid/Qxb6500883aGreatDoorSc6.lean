/- digitValue. -/
import Derived.Test.Qxb6500883aGreatDoorSc5
namespace Go.Proofs.Qxb6500883aGreatDoor
open Go.RowKit
set_option linter.unusedSimpArgs false
set_option linter.unusedVariables false
/-- A digit's value in base 10 or 16. -/
def dvN (c b : Nat) : Option Nat := if dgB c then some (c - 48) else if b = 16 ∧ 97 ≤ c ∧ c ≤ 102 then some (c - 87) else if b = 16 ∧ 65 ≤ c ∧ c ≤ 70 then some (c - 55) else none
theorem dvN_lt {c b d : Nat} (h : dvN c b = some d) : d < 16 := by
  unfold dvN dgB at h
  split at h
  · rename_i hd; simp at hd; cases h; omega
  · split at h
    · cases h; omega
    · split at h
      · cases h; omega
      · cases h
theorem digitValueW (c b : Nat) (hc : c < 256) (hb : b = 10 ∨ b = 16) (w : World) : Calls Tryz.prog 130 #[.int .u8 (c : Int), .int .u64 (b : Int)] w fun e w' => e = .returned (.tuple #[.int .u64 (((dvN c b).getD 0 : Nat) : Int), .bool (dvN c b).isSome]) ∧ w' = w := by
  have HD := hid (isDigitW c hc w)
  by_cases h1 : dgB c = true
  · have hd : dvN c b = some (c - 48) := by unfold dvN; rw [if_pos h1]
    have hlo : 48 ≤ c ∧ c ≤ 57 := by unfold dgB at h1; simp at h1; exact h1
    rw [hd]
    rw [h1] at HD
    obtain ⟨v, hv⟩ : ∃ v, c - 48 = v := ⟨_, rfl⟩
    have ev : (c : Int) - 48 = (v : Int) := by omega
    simp only [Option.getD_some, Option.isSome_some]
    rw [hv]
    clear hd h1 hv
    go_enter Tryz.func130, Tryz.ntmps130
    (go_wp2_with fail; refine HD.out.mono ?_; rintro e_ w_ ⟨he_, hw_⟩; subst he_; have hs_ := hw_.symm; clear hw_; subst hs_)
    go_wp2
    go_ret2
    exact ⟨rfl, rfl⟩
  have h1' : dgB c = false := by simpa using h1
  rw [h1'] at HD
  by_cases h2 : b = 16
  rotate_left
  · have hd : dvN c b = none := by unfold dvN; rw [if_neg h1, if_neg (by omega), if_neg (by omega)]
    rw [hd]
    have d1 : ((b : Int) == 16) = false := by simp; omega
    clear hd h1
    simp only [Option.getD_none, Option.isSome_none]
    go_enter Tryz.func130, Tryz.ntmps130
    (go_wp2_with fail; refine HD.out.mono ?_; rintro e_ w_ ⟨he_, hw_⟩; subst he_; have hs_ := hw_.symm; clear hw_; subst hs_)
    go_wp2
    go_ret2
    exact ⟨rfl, rfl⟩
  subst h2
  have hr : (c ≤ 64) ∨ (65 ≤ c ∧ c ≤ 70) ∨ (71 ≤ c ∧ c ≤ 96) ∨ (97 ≤ c ∧ c ≤ 102) ∨ 103 ≤ c := by omega
  obtain ⟨v, ok, hv⟩ : ∃ (v : Nat) (ok : Bool), (dvN c 16).getD 0 = v ∧ (dvN c 16).isSome = ok := ⟨_, _, rfl, rfl⟩
  rw [hv.1, hv.2]
  have hdv : dvN c 16 = if 97 ≤ c ∧ c ≤ 102 then some (c - 87) else if 65 ≤ c ∧ c ≤ 70 then some (c - 55) else none := by
    unfold dvN
    rw [if_neg h1]
    simp
  rw [hdv] at hv
  clear hdv h1
  rcases hr with hr | hr | hr | hr | hr
  · rw [if_neg (by omega), if_neg (by omega)] at hv
    obtain ⟨rfl, rfl⟩ := hv
    have d1 : decide ((97 : Int) ≤ (c : Int)) = false := decide_eq_false (by omega)
    have d1' : decide (97 ≤ c) = false := decide_eq_false (by omega)
    have d2 : decide ((65 : Int) ≤ (c : Int)) = false := decide_eq_false (by omega)
    have d2' : decide (65 ≤ c) = false := decide_eq_false (by omega)
    go_enter Tryz.func130, Tryz.ntmps130
    (go_wp2_with fail; refine HD.out.mono ?_; rintro e_ w_ ⟨he_, hw_⟩; subst he_; have hs_ := hw_.symm; clear hw_; subst hs_)
    go_wp2
    go_ret2
    exact ⟨rfl, rfl⟩
  · rw [if_neg (by omega), if_pos (by omega)] at hv
    have ev : (c : Int) - 65 + 10 = (v : Int) := by have := hv.1; simp at this; omega
    obtain ⟨u, hu⟩ : ∃ u, c - 65 = u := ⟨_, rfl⟩
    have eu : (c : Int) - 65 = (u : Int) := by omega
    have ev2 : (u : Int) + 10 = (v : Int) := by omega
    have hub : u < 6 := by omega
    have hok : true = ok := hv.2
    subst hok
    clear hv hu ev
    have d1 : decide ((97 : Int) ≤ (c : Int)) = false := decide_eq_false (by omega)
    have d1' : decide (97 ≤ c) = false := decide_eq_false (by omega)
    have d2 : decide ((65 : Int) ≤ (c : Int)) = true := decide_eq_true (by omega)
    have d2' : decide (65 ≤ c) = true := decide_eq_true (by omega)
    have d3 : decide ((c : Int) ≤ 70) = true := decide_eq_true (by omega)
    have d3' : decide (c ≤ 70) = true := decide_eq_true (by omega)
    go_enter Tryz.func130, Tryz.ntmps130
    (go_wp2_with fail; refine HD.out.mono ?_; rintro e_ w_ ⟨he_, hw_⟩; subst he_; have hs_ := hw_.symm; clear hw_; subst hs_)
    go_wp2
    go_ret2
    exact ⟨rfl, rfl⟩
  · rw [if_neg (by omega), if_neg (by omega)] at hv
    obtain ⟨rfl, rfl⟩ := hv
    have d1 : decide ((97 : Int) ≤ (c : Int)) = false := decide_eq_false (by omega)
    have d1' : decide (97 ≤ c) = false := decide_eq_false (by omega)
    have d2 : decide ((65 : Int) ≤ (c : Int)) = true := decide_eq_true (by omega)
    have d2' : decide (65 ≤ c) = true := decide_eq_true (by omega)
    have d3 : decide ((c : Int) ≤ 70) = false := decide_eq_false (by omega)
    have d3' : decide (c ≤ 70) = false := decide_eq_false (by omega)
    go_enter Tryz.func130, Tryz.ntmps130
    (go_wp2_with fail; refine HD.out.mono ?_; rintro e_ w_ ⟨he_, hw_⟩; subst he_; have hs_ := hw_.symm; clear hw_; subst hs_)
    go_wp2
    go_ret2
    exact ⟨rfl, rfl⟩
  · rw [if_pos (by omega)] at hv
    have hv1 := hv.1
    simp only [Option.getD_some] at hv1
    obtain ⟨u, hu⟩ : ∃ u, c - 97 = u := ⟨_, rfl⟩
    have eu : (c : Int) - 97 = (u : Int) := by omega
    have ev2 : (u : Int) + 10 = (v : Int) := by omega
    have hub : u < 6 := by omega
    have hok : true = ok := hv.2
    subst hok
    clear hv hu hv1
    have d1 : decide ((97 : Int) ≤ (c : Int)) = true := decide_eq_true (by omega)
    have d1' : decide (97 ≤ c) = true := decide_eq_true (by omega)
    have d3 : decide ((c : Int) ≤ 102) = true := decide_eq_true (by omega)
    have d3' : decide (c ≤ 102) = true := decide_eq_true (by omega)
    go_enter Tryz.func130, Tryz.ntmps130
    (go_wp2_with fail; refine HD.out.mono ?_; rintro e_ w_ ⟨he_, hw_⟩; subst he_; have hs_ := hw_.symm; clear hw_; subst hs_)
    go_wp2
    go_ret2
    exact ⟨rfl, rfl⟩
  · rw [if_neg (by omega), if_neg (by omega)] at hv
    obtain ⟨rfl, rfl⟩ := hv
    have d1 : decide ((97 : Int) ≤ (c : Int)) = true := decide_eq_true (by omega)
    have d1' : decide (97 ≤ c) = true := decide_eq_true (by omega)
    have d2 : decide ((65 : Int) ≤ (c : Int)) = true := decide_eq_true (by omega)
    have d2' : decide (65 ≤ c) = true := decide_eq_true (by omega)
    have d3 : decide ((c : Int) ≤ 70) = false := decide_eq_false (by omega)
    have d3' : decide (c ≤ 70) = false := decide_eq_false (by omega)
    have d4 : decide ((c : Int) ≤ 102) = false := decide_eq_false (by omega)
    have d4' : decide (c ≤ 102) = false := decide_eq_false (by omega)
    go_enter Tryz.func130, Tryz.ntmps130
    (go_wp2_with fail; refine HD.out.mono ?_; rintro e_ w_ ⟨he_, hw_⟩; subst he_; have hs_ := hw_.symm; clear hw_; subst hs_)
    go_wp2
    go_ret2
    exact ⟨rfl, rfl⟩
end Go.Proofs.Qxb6500883aGreatDoor
