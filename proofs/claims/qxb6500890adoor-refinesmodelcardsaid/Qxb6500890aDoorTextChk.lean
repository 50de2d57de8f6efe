/- The checked operations of text/checked.go: Add, Sub, Mul, Neg. -/
import Derived.Test.Qxb6500890aDoorTextDiv
import Derived.Test.Qxb6500890aDoorMem
namespace Go.Proofs.Qxb6500890aDoor
open Go.RowKit
set_option linter.unusedSimpArgs false
set_option linter.unusedVariables false

instance (a : Int) : Decidable (I64 a) := inferInstanceAs (Decidable (_ ∧ _))
/-- The exact result if int64 holds it. -/
def fitOut (z : Int) : Int × Int := if I64 z then (z, 0) else (0, 3)

theorem wrap_cases (z : Int) (h0 : -18446744073709551616 ≤ z) (h1 : z < 18446744073709551616) :
    (I64 z ∧ wrap64 z = z) ∨ (9223372036854775807 < z ∧ wrap64 z = z - 18446744073709551616) ∨ (z < -9223372036854775808 ∧ wrap64 z = z + 18446744073709551616) := by
  unfold wrap64 I64
  omega

theorem add_bad (a b : Int) (ha : I64 a) (hb : I64 b) : ((decide (a < 0) == decide (b < 0)) && (decide (wrap64 (a + b) < 0) != decide (a < 0))) = !decide (I64 (a + b)) := by
  obtain ⟨a0, a1⟩ := ha
  obtain ⟨b0, b1⟩ := hb
  rcases wrap_cases (a + b) (by omega) (by omega) with ⟨h, e⟩ | ⟨h, e⟩ | ⟨h, e⟩
  · rw [e, decide_eq_true h]
    obtain ⟨h0, h1⟩ := h
    by_cases x : a < 0 <;> by_cases y : b < 0 <;> by_cases z : a + b < 0 <;> simp [x, y, z] <;> omega
  · rw [e, decide_eq_false (show ¬ I64 (a + b) from fun h' => by have := h'.2; omega)]
    have x : ¬ a < 0 := by omega
    have y : ¬ b < 0 := by omega
    have z : a + b - 18446744073709551616 < 0 := by omega
    simp [x, y, z]
  · rw [e, decide_eq_false (show ¬ I64 (a + b) from fun h' => by have := h'.1; omega)]
    have x : a < 0 := by omega
    have y : b < 0 := by omega
    have z : ¬ a + b + 18446744073709551616 < 0 := by omega
    simp [x, y, z]
theorem sub_bad (a b : Int) (ha : I64 a) (hb : I64 b) : ((decide (a < 0) != decide (b < 0)) && (decide (wrap64 (a - b) < 0) != decide (a < 0))) = !decide (I64 (a - b)) := by
  obtain ⟨a0, a1⟩ := ha
  obtain ⟨b0, b1⟩ := hb
  rcases wrap_cases (a - b) (by omega) (by omega) with ⟨h, e⟩ | ⟨h, e⟩ | ⟨h, e⟩
  · rw [e, decide_eq_true h]
    obtain ⟨h0, h1⟩ := h
    by_cases x : a < 0 <;> by_cases y : b < 0 <;> by_cases z : a - b < 0 <;> simp [x, y, z] <;> omega
  · rw [e, decide_eq_false (show ¬ I64 (a - b) from fun h' => by have := h'.2; omega)]
    have x : ¬ a < 0 := by omega
    have y : b < 0 := by omega
    have z : a - b - 18446744073709551616 < 0 := by omega
    simp [x, y, z]
  · rw [e, decide_eq_false (show ¬ I64 (a - b) from fun h' => by have := h'.1; omega)]
    have x : a < 0 := by omega
    have y : ¬ b < 0 := by omega
    have z : ¬ a - b + 18446744073709551616 < 0 := by omega
    simp [x, y, z]
theorem wrap_fit {z : Int} (h : I64 z) : wrap64 z = z := IntWalk.wrap64_in _ h
/-- fitOut by a Bool. -/
theorem fit_true {z : Int} (h : decide (I64 z) = true) : fitOut z = (wrap64 z, 0) := by
  have h' : I64 z := by simpa using h
  simp [fitOut, h', wrap_fit h']
theorem fit_false {z : Int} (h : decide (I64 z) = false) : fitOut z = (0, 3) := by
  have h' : ¬ I64 z := by simpa using h
  simp [fitOut, h']

set_option maxRecDepth 100000 in
theorem add_walk (a b : Int) (ha : I64 a) (hb : I64 b) (w : World) :
    Calls Tryd.prog 55 #[.int .i64 a, .int .i64 b] w fun e w' => e = .returned (.tuple #[.int .i64 (fitOut (a + b)).1, .int .i64 (fitOut (a + b)).2]) ∧ w' = w := by
  have hbad := add_bad a b ha hb
  obtain ⟨sa, d1⟩ : ∃ x, decide (a < 0) = x := ⟨_, rfl⟩
  obtain ⟨sb, d2⟩ : ∃ x, decide (b < 0) = x := ⟨_, rfl⟩
  obtain ⟨ss, d3⟩ : ∃ x, decide (wrap64 (a + b) < 0) = x := ⟨_, rfl⟩
  obtain ⟨f, d4⟩ : ∃ x, decide (I64 (a + b)) = x := ⟨_, rfl⟩
  rw [d1, d2, d3, d4] at hbad
  clear ha hb
  cases f
  · rw [fit_false d4]
    clear d4
    cases sa <;> cases sb <;> cases ss <;> simp at hbad
    all_goals
      go_enter Tryd.func55, Tryd.ntmps55
      go_wp2
      go_ret2
      exact ⟨rfl, rfl⟩
  · rw [fit_true d4]
    clear d4
    cases sa <;> cases sb <;> cases ss <;> simp at hbad
    all_goals
      go_enter Tryd.func55, Tryd.ntmps55
      go_wp2
      go_ret2
      exact ⟨rfl, rfl⟩

set_option maxRecDepth 100000 in
theorem sub_walk (a b : Int) (ha : I64 a) (hb : I64 b) (w : World) :
    Calls Tryd.prog 56 #[.int .i64 a, .int .i64 b] w fun e w' => e = .returned (.tuple #[.int .i64 (fitOut (a - b)).1, .int .i64 (fitOut (a - b)).2]) ∧ w' = w := by
  have hbad := sub_bad a b ha hb
  obtain ⟨sa, d1⟩ : ∃ x, decide (a < 0) = x := ⟨_, rfl⟩
  obtain ⟨sb, d2⟩ : ∃ x, decide (b < 0) = x := ⟨_, rfl⟩
  obtain ⟨ss, d3⟩ : ∃ x, decide (wrap64 (a - b) < 0) = x := ⟨_, rfl⟩
  obtain ⟨f, d4⟩ : ∃ x, decide (I64 (a - b)) = x := ⟨_, rfl⟩
  rw [d1, d2, d3, d4] at hbad
  clear ha hb
  cases f
  · rw [fit_false d4]
    clear d4
    cases sa <;> cases sb <;> cases ss <;> simp at hbad
    all_goals
      go_enter Tryd.func56, Tryd.ntmps56
      go_wp2
      go_ret2
      exact ⟨rfl, rfl⟩
  · rw [fit_true d4]
    clear d4
    cases sa <;> cases sb <;> cases ss <;> simp at hbad
    all_goals
      go_enter Tryd.func56, Tryd.ntmps56
      go_wp2
      go_ret2
      exact ⟨rfl, rfl⟩

theorem neg_walk (a : Int) (ha : I64 a) (w : World) :
    Calls Tryd.prog 60 #[.int .i64 a] w fun e w' => e = .returned (.tuple #[.int .i64 (fitOut (-a)).1, .int .i64 (fitOut (-a)).2]) ∧ w' = w := by
  obtain ⟨a0, a1⟩ := ha
  by_cases h : a = -9223372036854775808
  · subst h
    rw [fit_false (by decide)]
    go_enter Tryd.func60, Tryd.ntmps60
    go_wp2
    go_ret2
    exact ⟨rfl, rfl⟩
  · have d : (a == -9223372036854775808) = false := by simp [h]
    have hf : I64 (-a) := ⟨by omega, by omega⟩
    rw [fit_true (decide_eq_true hf)]
    clear h hf
    go_enter Tryd.func60, Tryd.ntmps60
    go_wp2
    go_ret2
    exact ⟨rfl, rfl⟩

theorem mul_natAbs_lt {a b : Int} (ha : I64 a) (hb : I64 b) : (a * b).natAbs ≤ 85070591730234615865843651857942052864 := by
  rw [Int.natAbs_mul]
  have h1 : a.natAbs ≤ 9223372036854775808 := by obtain ⟨x, y⟩ := ha; omega
  have h2 : b.natAbs ≤ 9223372036854775808 := by obtain ⟨x, y⟩ := hb; omega
  exact Nat.mul_le_mul h1 h2
/-- The product divided back. -/
theorem mul_back (a b : Int) (ha : I64 a) (hb : I64 b) (hb0 : b ≠ 0) (ha0 : a ≠ 0) (he : ¬ (a = -9223372036854775808 ∧ b = -1)) (he' : ¬ (a = -1 ∧ b = -9223372036854775808)) :
    ((wrap64 ((wrap64 (a * b)).tdiv b)) != a) = !decide (I64 (a * b)) := by
  by_cases hf : I64 (a * b)
  · rw [decide_eq_true hf, wrap_fit hf, Int.mul_tdiv_cancel a hb0, wrap_fit ha]
    simp
  · rw [decide_eq_false hf]
    simp only [Bool.not_false, bne_iff_ne]
    intro hc
    obtain ⟨p, hp⟩ : ∃ p, wrap64 (a * b) = p := ⟨_, rfl⟩
    rw [hp] at hc
    have hpI : I64 p := by rw [← hp]; unfold wrap64 I64; omega
    have hm : ¬ (p = -9223372036854775808 ∧ b = -1) := by
      rintro ⟨h1, h2⟩
      subst h2
      rw [h1] at hc
      have e : wrap64 ((-9223372036854775808 : Int).tdiv (-1)) = -9223372036854775808 := by simp [wrap64]
      rw [e] at hc
      exact he ⟨hc.symm, rfl⟩
    rw [wrap_fit (tdiv_I64 hpI hb0 hm)] at hc
    have h1 := Int.mul_tdiv_add_tmod p b
    rw [hc] at h1
    have h2 : (p.tmod b).natAbs = p.natAbs % b.natAbs := Int.natAbs_tmod p b
    have h3 : p.natAbs % b.natAbs < b.natAbs := Nat.mod_lt _ (by omega)
    have h4 : b.natAbs ≤ 9223372036854775808 := by obtain ⟨x, y⟩ := hb; omega
    have h5 : ∃ q : Int, p = a * b + 18446744073709551616 * q := ⟨-((a * b + 9223372036854775808) / 18446744073709551616), by rw [← hp]; unfold wrap64; omega⟩
    obtain ⟨q, hq⟩ := h5
    rw [Int.mul_comm b a] at h1
    have : p.tmod b = 18446744073709551616 * q := by omega
    have hq0 : q = 0 := by omega
    subst hq0
    exact hf (by rw [show a * b = p by omega]; exact hpI)

set_option maxRecDepth 100000 in
theorem mul_walk (a b : Int) (ha : I64 a) (hb : I64 b) (w : World) :
    Calls Tryd.prog 57 #[.int .i64 a, .int .i64 b] w fun e w' => e = .returned (.tuple #[.int .i64 (fitOut (a * b)).1, .int .i64 (fitOut (a * b)).2]) ∧ w' = w := by
  by_cases ha0 : a = 0
  · subst ha0
    rw [show (0 : Int) * b = 0 by simp, show fitOut 0 = (0, 0) by decide]
    go_enter Tryd.func57, Tryd.ntmps57
    go_wp2
    go_ret2
    exact ⟨rfl, rfl⟩
  have da : (a == 0) = false := by simp [ha0]
  by_cases hb0 : b = 0
  · subst hb0
    rw [show a * (0 : Int) = 0 by simp, show fitOut 0 = (0, 0) by decide]
    go_enter Tryd.func57, Tryd.ntmps57
    go_wp2
    go_ret2
    exact ⟨rfl, rfl⟩
  have db : (b == 0) = false := by simp [hb0]
  by_cases he : a = -9223372036854775808 ∧ b = -1
  · obtain ⟨rfl, rfl⟩ := he
    rw [show fitOut (-9223372036854775808 * -1) = (0, 3) by decide]
    go_enter Tryd.func57, Tryd.ntmps57
    go_wp2
    go_ret2
    exact ⟨rfl, rfl⟩
  by_cases he' : a = -1 ∧ b = -9223372036854775808
  · obtain ⟨rfl, rfl⟩ := he'
    rw [show fitOut (-1 * -9223372036854775808) = (0, 3) by decide]
    go_enter Tryd.func57, Tryd.ntmps57
    go_wp2
    go_ret2
    exact ⟨rfl, rfl⟩
  have hmb := mul_back a b ha hb hb0 ha0 he he'
  obtain ⟨f, d4⟩ : ∃ x, decide (I64 (a * b)) = x := ⟨_, rfl⟩
  rw [d4] at hmb
  have he1 : ((a == -9223372036854775808) && (b == -1)) = false := by
    rw [Bool.and_eq_false_iff]
    by_cases h : a = -9223372036854775808
    · right; simp; exact fun h2 => he ⟨h, h2⟩
    · left; simp [h]
  have he2 : ((a == -1) && (b == -9223372036854775808)) = false := by
    rw [Bool.and_eq_false_iff]
    by_cases h : a = -1
    · right; simp; exact fun h2 => he' ⟨h, h2⟩
    · left; simp [h]
  obtain ⟨x1, t1⟩ : ∃ x, (a == -9223372036854775808) = x := ⟨_, rfl⟩
  obtain ⟨x2, t2⟩ : ∃ x, (b == -1) = x := ⟨_, rfl⟩
  obtain ⟨x3, t3⟩ : ∃ x, (a == -1) = x := ⟨_, rfl⟩
  obtain ⟨x4, t4⟩ : ∃ x, (b == -9223372036854775808) = x := ⟨_, rfl⟩
  rw [t1, t2] at he1
  rw [t3, t4] at he2
  clear ha0 he he' ha hb
  cases f
  · rw [fit_false d4]
    clear d4
    simp only [Bool.not_false] at hmb
    cases x1 <;> cases x2 <;> cases x3 <;> cases x4 <;> simp at he1 he2
    all_goals
      go_enter Tryd.func57, Tryd.ntmps57
      go_wp2
      go_ret2
      exact ⟨rfl, rfl⟩
  · rw [fit_true d4]
    clear d4
    simp only [Bool.not_true] at hmb
    cases x1 <;> cases x2 <;> cases x3 <;> cases x4 <;> simp at he1 he2
    all_goals
      go_enter Tryd.func57, Tryd.ntmps57
      go_wp2
      go_ret2
      exact ⟨rfl, rfl⟩
end Go.Proofs.Qxb6500890aDoor
