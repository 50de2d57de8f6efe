/- arith and checkedAgrees. -/
import Derived.Test.Qxb6500890aDoorTextExact0
namespace Go.Proofs.Qxb6500890aDoor
open Go.RowKit
set_option linter.unusedSimpArgs false
set_option linter.unusedVariables false

theorem div_fit {a b : Int} (ha : I64 a) (hb0 : b ≠ 0) : divOut a b = fitOut (a.tdiv b) := by
  unfold divOut
  rw [if_neg hb0]
  by_cases hm : a = -9223372036854775808 ∧ b = -1
  · rw [if_pos hm]
    obtain ⟨rfl, rfl⟩ := hm
    rw [show (-9223372036854775808 : Int).tdiv (-1) = 9223372036854775808 by simp]
    decide
  · rw [if_neg hm]
    simp [fitOut, tdiv_I64 ha hb0 hm]
theorem mod_fit {a b : Int} (hb : I64 b) (hb0 : b ≠ 0) : modOut a b = fitOut (a.tmod b) := by
  have h2 : (a.tmod b).natAbs = a.natAbs % b.natAbs := Int.natAbs_tmod a b
  have h3 : a.natAbs % b.natAbs < b.natAbs := Nat.mod_lt _ (by omega)
  have hf : I64 (a.tmod b) := by obtain ⟨x, y⟩ := hb; unfold I64; omega
  unfold modOut
  rw [if_neg hb0]
  by_cases hm : b = -1
  · subst hm
    rw [if_pos rfl, show a.tmod (-1) = 0 by simp]
    decide
  · rw [if_neg hm]
    simp [fitOut, hf]

set_option maxRecDepth 100000 in
theorem arith_add (a b : Int) (ha : I64 a) (hb : I64 b) (w : World) :
    Calls Tryd.prog 18 #[.int .i64 2, .int .i64 a, .int .i64 b] w fun e w' => e = .returned (.tuple #[.int .i64 (fitOut (a + b)).1, .int .i64 (fitOut (a + b)).2]) ∧ w' = w := by
  have HC := hid (fun w => add_walk a b ha hb w)
  obtain ⟨v, hv⟩ : ∃ v, fitOut (a + b) = v := ⟨_, rfl⟩
  rw [hv] at HC ⊢
  clear hv ha hb
  go_enter Tryd.func18, Tryd.ntmps18
  go_wp2_with (go_at_call 55; refine (HC.out _).mono ?_; rintro e w1 ⟨rfl, rfl⟩)
  go_ret2
  exact ⟨rfl, rfl⟩

set_option maxRecDepth 100000 in
theorem arith_sub (a b : Int) (ha : I64 a) (hb : I64 b) (w : World) :
    Calls Tryd.prog 18 #[.int .i64 3, .int .i64 a, .int .i64 b] w fun e w' => e = .returned (.tuple #[.int .i64 (fitOut (a - b)).1, .int .i64 (fitOut (a - b)).2]) ∧ w' = w := by
  have HC := hid (fun w => sub_walk a b ha hb w)
  obtain ⟨v, hv⟩ : ∃ v, fitOut (a - b) = v := ⟨_, rfl⟩
  rw [hv] at HC ⊢
  clear hv ha hb
  go_enter Tryd.func18, Tryd.ntmps18
  go_wp2_with (go_at_call 56; refine (HC.out _).mono ?_; rintro e w1 ⟨rfl, rfl⟩)
  go_ret2
  exact ⟨rfl, rfl⟩

set_option maxRecDepth 100000 in
theorem arith_mul (a b : Int) (ha : I64 a) (hb : I64 b) (w : World) :
    Calls Tryd.prog 18 #[.int .i64 4, .int .i64 a, .int .i64 b] w fun e w' => e = .returned (.tuple #[.int .i64 (fitOut (a * b)).1, .int .i64 (fitOut (a * b)).2]) ∧ w' = w := by
  have HC := hid (fun w => mul_walk a b ha hb w)
  obtain ⟨v, hv⟩ : ∃ v, fitOut (a * b) = v := ⟨_, rfl⟩
  rw [hv] at HC ⊢
  clear hv ha hb
  go_enter Tryd.func18, Tryd.ntmps18
  go_wp2_with (go_at_call 57; refine (HC.out _).mono ?_; rintro e w1 ⟨rfl, rfl⟩)
  go_ret2
  exact ⟨rfl, rfl⟩

set_option maxRecDepth 100000 in
theorem arith_quo (a b : Int) (ha : I64 a) (hb : I64 b) (w : World) :
    Calls Tryd.prog 18 #[.int .i64 5, .int .i64 a, .int .i64 b] w fun e w' => e = .returned (.tuple #[.int .i64 (divOut a b).1, .int .i64 (divOut a b).2]) ∧ w' = w := by
  have HC := hid (fun w => div_walk a b ha w)
  obtain ⟨v, hv⟩ : ∃ v, divOut a b = v := ⟨_, rfl⟩
  rw [hv] at HC ⊢
  clear hv ha hb
  go_enter Tryd.func18, Tryd.ntmps18
  go_wp2_with (go_at_call 58; refine (HC.out _).mono ?_; rintro e w1 ⟨rfl, rfl⟩)
  go_ret2
  exact ⟨rfl, rfl⟩

set_option maxRecDepth 100000 in
theorem arith_rem (a b : Int) (ha : I64 a) (hb : I64 b) (w : World) :
    Calls Tryd.prog 18 #[.int .i64 6, .int .i64 a, .int .i64 b] w fun e w' => e = .returned (.tuple #[.int .i64 (modOut a b).1, .int .i64 (modOut a b).2]) ∧ w' = w := by
  have HC := hid (fun w => mod_walk a b w)
  obtain ⟨v, hv⟩ : ∃ v, modOut a b = v := ⟨_, rfl⟩
  rw [hv] at HC ⊢
  clear hv ha hb
  go_enter Tryd.func18, Tryd.ntmps18
  go_wp2_with (go_at_call 59; refine (HC.out _).mono ?_; rintro e w1 ⟨rfl, rfl⟩)
  go_ret2
  exact ⟨rfl, rfl⟩

set_option maxRecDepth 100000 in
theorem arith_neg (a b : Int) (ha : I64 a) (hb : I64 b) (w : World) :
    Calls Tryd.prog 18 #[.int .i64 7, .int .i64 a, .int .i64 b] w fun e w' => e = .returned (.tuple #[.int .i64 (fitOut (-a)).1, .int .i64 (fitOut (-a)).2]) ∧ w' = w := by
  have HC := hid (fun w => neg_walk a ha w)
  obtain ⟨v, hv⟩ : ∃ v, fitOut (-a) = v := ⟨_, rfl⟩
  rw [hv] at HC ⊢
  clear hv ha hb
  go_enter Tryd.func18, Tryd.ntmps18
  go_wp2_with (go_at_call 60; refine (HC.out _).mono ?_; rintro e w1 ⟨rfl, rfl⟩)
  go_ret2
  exact ⟨rfl, rfl⟩

set_option maxRecDepth 100000 in
set_option maxHeartbeats 1000000 in
theorem agree_some (kind a b z : Int) (hz : z.natAbs < 340282366920938463463374607431768211456)
    (HA : ∀ w, Calls Tryd.prog 18 #[.int .i64 kind, .int .i64 a, .int .i64 b] w fun e w' => e = .returned (.tuple #[.int .i64 (fitOut z).1, .int .i64 (fitOut z).2]) ∧ w' = w)
    (HX : ∀ w, Calls Tryd.prog 51 #[.int .i64 kind, .int .i64 a, .int .i64 b] w fun e w' => e = .returned (.tuple #[wideV z, .bool true]) ∧ Below w.heap.size w w') (w : World) :
    Calls Tryd.prog 11 #[.int .i64 kind, .int .i64 a, .int .i64 b] w fun e w' => e = .returned (.bool true) ∧ Below w.heap.size w w' := by
  have HA' := hid HA
  have HX' : Hid (∀ w, Calls Tryd.prog 51 #[.int .i64 kind, .int .i64 a, .int .i64 b] w fun e w' => e = .returned (.tuple #[wideX z, .bool true]) ∧ Below w.heap.size w w') := hid HX
  have HF := hid (fun w => fits_walk z hz w)
  clear HA HX hz
  by_cases hf : I64 z
  · rw [fit_true (decide_eq_true hf)] at HA' HF
    rw [decide_eq_true hf] at HF
    generalize wrap64 z = q at *
    clear hf
    go_enter Tryd.func11, Tryd.ntmps11
    go_wp2_with (go_at_call 18; refine (HA'.out _).mono ?_; rintro e w1 ⟨rfl, rfl⟩)
    refine (HX'.out _).mono ?_
    rintro e w2 ⟨rfl, hb2⟩
    have HB2 : Hid (Below w1.heap.size w1 (w2.alloc (.cells (wideL z).toArray 87))) := hid (hb2.alloc hb2.size _)
    have HB2' : Hid (w1.heap.size ≤ w2.heap.size) := hid hb2.size
    clear hb2
    unfold wideX
    go_wp2_with fail
    refine (HF.out _).mono ?_
    rintro e w3 ⟨rfl, hb3⟩
    have HB3 : Hid (Below w1.heap.size w1 w3) := hid (HB2.out.trans (hb3.mono (by have := HB2'.out; simp; omega)))
    clear hb3
    go_wp2
    go_ret
    exact ⟨rfl, HB3.out⟩
  · rw [fit_false (decide_eq_false hf)] at HA' HF
    rw [decide_eq_false hf] at HF
    clear hf
    go_enter Tryd.func11, Tryd.ntmps11
    go_wp2_with (go_at_call 18; refine (HA'.out _).mono ?_; rintro e w1 ⟨rfl, rfl⟩)
    refine (HX'.out _).mono ?_
    rintro e w2 ⟨rfl, hb2⟩
    have HB2 : Hid (Below w1.heap.size w1 (w2.alloc (.cells (wideL z).toArray 87))) := hid (hb2.alloc hb2.size _)
    have HB2' : Hid (w1.heap.size ≤ w2.heap.size) := hid hb2.size
    clear hb2
    unfold wideX
    go_wp2_with fail
    refine (HF.out _).mono ?_
    rintro e w3 ⟨rfl, hb3⟩
    have HB3 : Hid (Below w1.heap.size w1 w3) := hid (HB2.out.trans (hb3.mono (by have := HB2'.out; simp; omega)))
    clear hb3
    go_wp2
    go_ret
    exact ⟨rfl, HB3.out⟩

set_option maxRecDepth 100000 in
theorem agree_none (kind a b : Int)
    (HA : ∀ w, Calls Tryd.prog 18 #[.int .i64 kind, .int .i64 a, .int .i64 b] w fun e w' => e = .returned (.tuple #[.int .i64 0, .int .i64 4]) ∧ w' = w)
    (HX : ∀ w, Calls Tryd.prog 51 #[.int .i64 kind, .int .i64 a, .int .i64 b] w fun e w' => e = .returned (.tuple #[.agg zeroL.toArray, .bool false]) ∧ Below w.heap.size w w') (w : World) :
    Calls Tryd.prog 11 #[.int .i64 kind, .int .i64 a, .int .i64 b] w fun e w' => e = .returned (.bool true) ∧ Below w.heap.size w w' := by
  have HA' := hid HA
  have HX' := hid HX
  clear HA HX
  go_enter Tryd.func11, Tryd.ntmps11
  go_wp2_with (go_at_call 18; refine (HA'.out _).mono ?_; rintro e w1 ⟨rfl, rfl⟩)
  refine (HX'.out _).mono ?_
  rintro e w2 ⟨rfl, hb2⟩
  have HB2 : Hid (Below w1.heap.size w1 (w2.alloc (.cells zeroL.toArray 87))) := hid (hb2.alloc hb2.size _)
  clear hb2
  unfold zeroL
  go_wp2
  go_ret
  exact ⟨rfl, HB2.out⟩

theorem agree_all (kind a b : Int) (ha : I64 a) (hb : I64 b) (hk : kind = 2 ∨ kind = 3 ∨ kind = 4 ∨ kind = 5 ∨ kind = 6 ∨ kind = 7) (w : World) :
    Calls Tryd.prog 11 #[.int .i64 kind, .int .i64 a, .int .i64 b] w fun e w' => e = .returned (.bool true) ∧ Below w.heap.size w w' := by
  have na : a.natAbs ≤ 9223372036854775808 := by obtain ⟨x, y⟩ := ha; omega
  have nb : b.natAbs ≤ 9223372036854775808 := by obtain ⟨x, y⟩ := hb; omega
  rcases hk with rfl | rfl | rfl | rfl | rfl | rfl
  · exact agree_some 2 a b (a + b) (by omega) (fun w => arith_add a b ha hb w) (fun w => exact_add a b ha hb w) w
  · exact agree_some 3 a b (a - b) (by omega) (fun w => arith_sub a b ha hb w) (fun w => exact_sub a b ha hb w) w
  · exact agree_some 4 a b (a * b) (Nat.lt_of_le_of_lt (mul_natAbs_lt ha hb) (by decide)) (fun w => arith_mul a b ha hb w) (fun w => exact_mul a b ha hb w) w
  · by_cases hb0 : b = 0
    · refine agree_none 5 a b (fun w => ?_) (fun w => exact_quo0 a b ha hb hb0 w) w
      have := arith_quo a b ha hb w
      rw [show divOut a b = (0, 4) by simp [divOut, hb0]] at this
      exact this
    · refine agree_some 5 a b (a.tdiv b) ?_ (fun w => ?_) (fun w => exact_quo a b ha hb hb0 w) w
      · have := natAbs_tdiv_le a b
        omega
      · have := arith_quo a b ha hb w
        rw [div_fit ha hb0] at this
        exact this
  · by_cases hb0 : b = 0
    · refine agree_none 6 a b (fun w => ?_) (fun w => exact_rem0 a b ha hb hb0 w) w
      have := arith_rem a b ha hb w
      rw [show modOut a b = (0, 4) by simp [modOut, hb0]] at this
      exact this
    · refine agree_some 6 a b (a.tmod b) ?_ (fun w => ?_) (fun w => exact_rem a b ha hb hb0 w) w
      · have h2 : (a.tmod b).natAbs = a.natAbs % b.natAbs := Int.natAbs_tmod a b
        have h3 : a.natAbs % b.natAbs < b.natAbs := Nat.mod_lt _ (by omega)
        omega
      · have := arith_rem a b ha hb w
        rw [mod_fit hb hb0] at this
        exact this
  · exact agree_some 7 a b (-a) (by omega) (fun w => arith_neg a b ha hb w) (fun w => exact_neg a b ha hb w) w
end Go.Proofs.Qxb6500890aDoor
