/- The model's checks. -/
import Derived.Test.Qxb6500887aGreatAyB
import Derived.Deep.DeepCutAuto
namespace Go.Proofs.Qxb6500887aGreat
open Go.RowKit
set_option linter.unusedSimpArgs false
set_option linter.unusedVariables false
theorem wofM' (x : Int) (h0 : 65536 ≤ x) (h1 : x ≤ 98304) (w : World) : Calls Tryz.prog 90 #[.int .u64 x] w fun e w' => e = .returned (.int .i64 (x - 65536)) ∧ w' = w := by
  have h := wofM (x - 65536).toNat (by omega) w
  have e1 : ((65536 + (x - 65536).toNat : Nat) : Int) = x := by omega
  have e2 : (((x - 65536).toNat : Nat) : Int) = x - 65536 := by omega
  rw [e1, e2] at h
  exact h
set_option maxRecDepth 100000 in
theorem ckoM (x : Int) (w : World) : Calls Tryz.prog 191 #[.int .u64 x] w fun e w' => e = .returned (.int .u8 (wantO x)) ∧ w' = w := by
  have HW := hid (ckwM x w)
  unfold wantO
  unfold wantW at HW
  by_cases hi : InH x
  · rw [if_pos hi] at HW ⊢
    have HO := hid (wofM' x hi.1 (by have := hi.2; omega) w)
    obtain ⟨y, hy⟩ : ∃ y, x - 65536 = y := ⟨_, rfl⟩
    have hy0 : 0 ≤ y := by have := hi.1; omega
    have hy1 : y ≤ 32768 := by have := hi.2; omega
    have hyx : x % 2 = y % 2 := by omega
    rw [hy] at HO
    rw [hyx]
    clear hi hy hyx
    have ht : y.tmod 2 = y % 2 := Int.tmod_eq_emod_of_nonneg hy0
    by_cases ho : y % 2 = 0
    · have do1 : (y % 2 != 0) = false := by simp [ho]
      have do2 : (y % 2 == 0) = true := by simp [ho]
      rw [if_pos ho]
      go_enter Tryz.func191, Tryz.ntmps191
      (go_wp2_with fail; refine (HW.out).mono ?_; rintro e_ w_ ⟨he_, hw_⟩; subst he_; have hs_ := hw_.symm; clear hw_; subst hs_)
      (go_wp2_with fail; refine (HO.out).mono ?_; rintro e_ w_ ⟨he_, hw_⟩; subst he_; have hs_ := hw_.symm; clear hw_; subst hs_)
      go_wp2
      go_ret
      exact ⟨rfl, rfl⟩
    · have do1 : (y % 2 != 0) = true := by simp [ho]
      have do2 : (y % 2 == 0) = false := by simp; omega
      rw [if_neg ho]
      go_enter Tryz.func191, Tryz.ntmps191
      (go_wp2_with fail; refine (HW.out).mono ?_; rintro e_ w_ ⟨he_, hw_⟩; subst he_; have hs_ := hw_.symm; clear hw_; subst hs_)
      (go_wp2_with fail; refine (HO.out).mono ?_; rintro e_ w_ ⟨he_, hw_⟩; subst he_; have hs_ := hw_.symm; clear hw_; subst hs_)
      go_wp2
      go_ret
      exact ⟨rfl, rfl⟩
  · rw [if_neg hi] at HW ⊢
    clear hi
    go_enter Tryz.func191, Tryz.ntmps191
    (go_wp2_with fail; refine (HW.out).mono ?_; rintro e_ w_ ⟨he_, hw_⟩; subst he_; have hs_ := hw_.symm; clear hw_; subst hs_)
    go_wp2
    go_ret
    exact ⟨rfl, rfl⟩
theorem biV_two (x : Int) : (biV x).2 = if 65536 ≤ x ∧ x ≤ 98304 then 0 else 1 := by
  unfold biV
  by_cases h1 : x = 98304
  · rw [if_pos h1, if_pos (by omega)]
  · rw [if_neg h1]
    by_cases h2 : InH x
    · rw [if_pos h2, if_pos (by unfold InH at h2; omega)]
    · rw [if_neg h2, if_neg (by unfold InH at h2; omega)]
set_option maxRecDepth 100000 in
theorem ckbM (x : Int) (al : Bool) (w : World) : Calls Tryz.prog 248 #[.int .u64 x, .bool al] w fun e w' => e = .returned (.int .u8 (bnV x al).2) ∧ w' = w := by
  unfold bnV
  rw [biV_two]
  by_cases h1 : x < 65536
  · have d1 : decide (x < 65536) = true := decide_eq_true h1
    rw [if_neg (by rw [if_neg (by omega)]; decide)]
    go_enter Tryz.func248, Tryz.ntmps248
    go_wp2
    go_ret
    exact ⟨rfl, rfl⟩
  · have d1 : decide (x < 65536) = false := decide_eq_false h1
    by_cases h2 : x > 98304
    · have d2 : decide (x > 98304) = true := decide_eq_true h2
      have d2' : decide (98304 < x) = true := decide_eq_true h2
      rw [if_neg (by rw [if_neg (by omega)]; decide)]
      go_enter Tryz.func248, Tryz.ntmps248
      go_wp2
      go_ret
      exact ⟨rfl, rfl⟩
    · have d2 : decide (x > 98304) = false := decide_eq_false h2
      have d2' : decide (98304 < x) = false := decide_eq_false h2
      rw [if_pos (by rw [if_pos (by omega)])]
      have HO := hid (wofM' x (by omega) (by omega) w)
      obtain ⟨y, hy⟩ : ∃ y, x - 65536 = y := ⟨_, rfl⟩
      have hy0 : 0 ≤ y := by omega
      have hy1 : y ≤ 32768 := by omega
      rw [hy] at HO ⊢
      clear hy
      cases al with
      | false =>
        rw [if_neg (by simp)]
        go_enter Tryz.func248, Tryz.ntmps248
        go_wp2
        go_ret
        exact ⟨rfl, rfl⟩
      | true =>
        have ht : y.tmod 2 = y % 2 := Int.tmod_eq_emod_of_nonneg hy0
        by_cases ho : y % 2 = 0
        · have do1 : (y % 2 != 0) = false := by simp [ho]
          have do2 : (y % 2 == 0) = true := by simp [ho]
          rw [if_neg (by simp [ho])]
          go_enter Tryz.func248, Tryz.ntmps248
          (go_wp2_with fail; refine (HO.out).mono ?_; rintro e_ w_ ⟨he_, hw_⟩; subst he_; have hs_ := hw_.symm; clear hw_; subst hs_)
          go_wp2
          go_ret
          exact ⟨rfl, rfl⟩
        · have do1 : (y % 2 != 0) = true := by simp [ho]
          have do2 : (y % 2 == 0) = false := by simp; omega
          rw [if_pos ⟨rfl, ho⟩]
          go_enter Tryz.func248, Tryz.ntmps248
          (go_wp2_with fail; refine (HO.out).mono ?_; rintro e_ w_ ⟨he_, hw_⟩; subst he_; have hs_ := hw_.symm; clear hw_; subst hs_)
          go_wp2
          go_ret
          exact ⟨rfl, rfl⟩
theorem bnV_cases (x : Int) (al : Bool) : (bnV x al).2 = 0 ∨ (bnV x al).2 = 1 ∨ (bnV x al).2 = 2 := by
  unfold bnV
  split
  · split <;> simp
  · simp
set_option maxRecDepth 100000 in
theorem ckbsM (x y : Int) (al : Bool) (w : World) : Calls Tryz.prog 196 #[.int .u64 x, .int .u64 y, .bool al] w fun e w' => e = .returned (.int .u8 (stC x y al)) ∧ w' = w := by
  have H1 := hid (ckbM x al w)
  have H2 := hid (ckbM y al w)
  unfold stC
  by_cases h1 : (bnV x al).2 = 0
  · rw [h1] at H1
    rw [if_pos h1]
    clear h1
    by_cases h2 : (bnV y al).2 = 0
    · rw [h2] at H2
      rw [if_pos h2]
      clear h2
      by_cases h3 : y < x
      · have d3 : decide (x > y) = true := decide_eq_true h3
        have d3' : decide (y < x) = true := decide_eq_true h3
        rw [if_pos h3]
        go_enter Tryz.func196, Tryz.ntmps196
        (go_wp2_with fail; refine (H1.out).mono ?_; rintro e_ w_ ⟨he_, hw_⟩; subst he_; have hs_ := hw_.symm; clear hw_; subst hs_)
        (go_wp2_with fail; refine (H2.out).mono ?_; rintro e_ w_ ⟨he_, hw_⟩; subst he_; have hs_ := hw_.symm; clear hw_; subst hs_)
        go_wp2
        go_ret
        exact ⟨rfl, rfl⟩
      · have d3 : decide (x > y) = false := decide_eq_false h3
        have d3' : decide (y < x) = false := decide_eq_false h3
        rw [if_neg h3]
        go_enter Tryz.func196, Tryz.ntmps196
        (go_wp2_with fail; refine (H1.out).mono ?_; rintro e_ w_ ⟨he_, hw_⟩; subst he_; have hs_ := hw_.symm; clear hw_; subst hs_)
        (go_wp2_with fail; refine (H2.out).mono ?_; rintro e_ w_ ⟨he_, hw_⟩; subst he_; have hs_ := hw_.symm; clear hw_; subst hs_)
        go_wp2
        go_ret
        exact ⟨rfl, rfl⟩
    · rw [if_neg h2]
      generalize (bnV y al).2 = c at *
      have dc : (c != 0) = true := by simpa using h2
      have dc' : (c == 0) = false := by simpa using h2
      go_enter Tryz.func196, Tryz.ntmps196
      (go_wp2_with fail; refine (H1.out).mono ?_; rintro e_ w_ ⟨he_, hw_⟩; subst he_; have hs_ := hw_.symm; clear hw_; subst hs_)
      (go_wp2_with fail; refine (H2.out).mono ?_; rintro e_ w_ ⟨he_, hw_⟩; subst he_; have hs_ := hw_.symm; clear hw_; subst hs_)
      go_wp2
      go_ret
      exact ⟨rfl, rfl⟩
  · rw [if_neg h1]
    generalize (bnV x al).2 = c at *
    have dc : (c != 0) = true := by simpa using h1
    have dc' : (c == 0) = false := by simpa using h1
    go_enter Tryz.func196, Tryz.ntmps196
    (go_wp2_with fail; refine (H1.out).mono ?_; rintro e_ w_ ⟨he_, hw_⟩; subst he_; have hs_ := hw_.symm; clear hw_; subst hs_)
    go_wp2
    go_ret
    exact ⟨rfl, rfl⟩
set_option maxRecDepth 100000 in
theorem ckrM (k m lim : Int) (k0 : 0 ≤ k) (k1 : k ≤ lim) (k2 : lim ≤ 32768) (w : World) : Calls Tryz.prog 190 #[.int .i64 k, .int .i64 m, .int .i64 lim] w fun e w' => e = .returned (.int .u8 (lenG k m lim)) ∧ w' = w := by
  unfold lenG
  by_cases h1 : m < 1
  · have d1 : decide (m ≤ 0) = true := decide_eq_true (by omega)
    rw [if_pos h1]
    go_enter Tryz.func190, Tryz.ntmps190
    go_wp2
    go_ret
    exact ⟨rfl, rfl⟩
  · have d1 : decide (m ≤ 0) = false := decide_eq_false (by omega)
    rw [if_neg h1]
    by_cases h2 : m > lim
    · have d2 : decide (m > lim) = true := decide_eq_true h2
      have d2' : decide (lim < m) = true := decide_eq_true h2
      rw [if_pos (by omega)]
      go_enter Tryz.func190, Tryz.ntmps190
      go_wp2
      go_ret
      exact ⟨rfl, rfl⟩
    · have d2 : decide (m > lim) = false := decide_eq_false h2
      have d2' : decide (lim < m) = false := decide_eq_false h2
      obtain ⟨y, hy⟩ : ∃ y, k + m = y := ⟨_, rfl⟩
      have hy0 : 0 ≤ y := by omega
      have hy1 : y ≤ 70000 := by omega
      by_cases h3 : y > lim
      · have d3 : decide (y > lim) = true := decide_eq_true h3
        have d3' : decide (lim < y) = true := decide_eq_true h3
        rw [if_pos (by omega)]
        go_enter Tryz.func190, Tryz.ntmps190
        go_wp2
        go_ret
        exact ⟨rfl, rfl⟩
      · have d3 : decide (y > lim) = false := decide_eq_false h3
        have d3' : decide (lim < y) = false := decide_eq_false h3
        rw [if_neg (by omega)]
        go_enter Tryz.func190, Tryz.ntmps190
        go_wp2
        go_ret
        exact ⟨rfl, rfl⟩
set_option maxRecDepth 100000 in
theorem refOkM (x : Int) (w : World) : Calls Tryz.prog 94 #[.int .u64 x] w fun e w' => e = .returned (.bool (decide (rfOk x))) ∧ w' = w := by
  have HO := hid (ckoM x w)
  by_cases h0 : x = 0
  · have d0 : (x == 0) = true := by simpa using h0
    have hk : rfOk x := .inl h0
    rw [decide_eq_true hk]
    clear hk
    clear h0
    go_enter Tryz.func94, Tryz.ntmps94
    go_wp2
    go_ret
    exact ⟨rfl, rfl⟩
  · have d0 : (x == 0) = false := by simpa using h0
    by_cases h1 : wantO x = 0
    · have hk : rfOk x := .inr h1
      rw [decide_eq_true hk]
      clear hk
      rw [h1] at HO
      clear h0 h1
      go_enter Tryz.func94, Tryz.ntmps94
      (go_wp2_with fail; refine (HO.out).mono ?_; rintro e_ w_ ⟨he_, hw_⟩; subst he_; have hs_ := hw_.symm; clear hw_; subst hs_)
      go_wp2
      go_ret
      exact ⟨rfl, rfl⟩
    · have hk : ¬ rfOk x := fun h => h.elim h0 h1
      rw [decide_eq_false hk]
      clear hk
      have d1 : (wantO x == 0) = false := by simpa using h1
      generalize wantO x = c at *
      clear h0
      go_enter Tryz.func94, Tryz.ntmps94
      (go_wp2_with fail; refine (HO.out).mono ?_; rintro e_ w_ ⟨he_, hw_⟩; subst he_; have hs_ := hw_.symm; clear hw_; subst hs_)
      go_wp2
      go_ret
      exact ⟨rfl, rfl⟩
set_option maxRecDepth 100000 in
theorem ckshM (s r : Int) (w : World) : Calls Tryz.prog 95 #[.int .i64 s, .int .i64 r] w fun e w' => e = .returned (.int .u8 (hdrCheck s r)) ∧ w' = w := by
  unfold hdrCheck
  by_cases h1 : s < 1
  · have d1 : decide (s < 1) = true := decide_eq_true h1
    rw [if_pos (.inl h1)]
    go_enter Tryz.func95, Tryz.ntmps95
    go_wp2
    go_ret
    exact ⟨rfl, rfl⟩
  · have d1 : decide (s < 1) = false := decide_eq_false h1
    by_cases h2 : 8192 < s
    · have d2 : decide (s > 8192) = true := decide_eq_true h2
      have d2' : decide (8192 < s) = true := decide_eq_true h2
      rw [if_pos (.inr h2)]
      go_enter Tryz.func95, Tryz.ntmps95
      go_wp2
      go_ret
      exact ⟨rfl, rfl⟩
    · have d2 : decide (s > 8192) = false := decide_eq_false h2
      have d2' : decide (8192 < s) = false := decide_eq_false h2
      rw [if_neg (by omega)]
      by_cases h3 : r < 0
      · have d3 : decide (r < 0) = true := decide_eq_true h3
        rw [if_pos (.inl h3)]
        go_enter Tryz.func95, Tryz.ntmps95
        go_wp2
        go_ret
        exact ⟨rfl, rfl⟩
      · have d3 : decide (r < 0) = false := decide_eq_false h3
        by_cases h4 : s < r
        · have d4 : decide (r > s) = true := decide_eq_true h4
          have d4' : decide (s < r) = true := decide_eq_true h4
          rw [if_pos (.inr h4)]
          go_enter Tryz.func95, Tryz.ntmps95
          go_wp2
          go_ret
          exact ⟨rfl, rfl⟩
        · have d4 : decide (r > s) = false := decide_eq_false h4
          have d4' : decide (s < r) = false := decide_eq_false h4
          rw [if_neg (by omega)]
          go_enter Tryz.func95, Tryz.ntmps95
          go_wp2
          go_ret
          exact ⟨rfl, rfl⟩
theorem isHdr_iff (x : Int) (h0 : 0 ≤ x) (h1 : x < 18446744073709551616) : isHdr x ↔ x / 4294967296 = 3070230528 ∧ hdrCheck (decSize x) (decRefs x) = 0 := by
  unfold isHdr
  constructor
  · rintro ⟨a, b, c⟩; exact ⟨by omega, c⟩
  · rintro ⟨a, c⟩; exact ⟨by omega, by omega, c⟩
set_option maxRecDepth 100000 in
theorem hdM (x : Int) (h0 : 0 ≤ x) (h1 : x < 18446744073709551616) (w : World) : Calls Tryz.prog 96 #[.int .u64 x] w fun e w' => e = .returned (.tuple #[.int .i64 (decSize x), .int .i64 (decRefs x), .bool (decide (isHdr x))]) ∧ w' = w := by
  have HS := hid (ckshM (decSize x) (decRefs x) w)
  have e1 : x.tmod 65536 = decSize x := Int.tmod_eq_emod_of_nonneg h0
  have e2 : x.tdiv 65536 = x / 65536 := Int.tdiv_eq_ediv_of_nonneg h0
  have e3 : (x / 65536).tmod 65536 = decRefs x := Int.tmod_eq_emod_of_nonneg (by omega)
  have e4 : x.tdiv 4294967296 = x / 4294967296 := Int.tdiv_eq_ediv_of_nonneg h0
  have e1' : x % 65536 = decSize x := rfl
  have e3' : x / 65536 % 65536 = decRefs x := rfl
  have r1 : 0 ≤ decSize x ∧ decSize x < 65536 := by unfold decSize; omega
  have r2 : 0 ≤ decRefs x ∧ decRefs x < 65536 := by unfold decRefs; omega
  have r3 : 0 ≤ x / 65536 ∧ x / 65536 < 18446744073709551616 := by omega
  have r4 : 0 ≤ x / 4294967296 ∧ x / 4294967296 < 18446744073709551616 := by omega
  have hh := isHdr_iff x h0 h1
  by_cases g1 : x / 4294967296 = 3070230528
  · have d1 : (x / 4294967296 == 3070230528) = true := by simpa using g1
    by_cases g2 : hdrCheck (decSize x) (decRefs x) = 0
    · rw [decide_eq_true (hh.2 ⟨g1, g2⟩)]
      rw [g2] at HS
      clear hh g1 g2
      generalize decSize x = sz at *
      generalize decRefs x = rf at *
      generalize x / 65536 = q1 at *
      generalize x / 4294967296 = q2 at *
      go_enter Tryz.func96, Tryz.ntmps96
      (go_wp2_with fail; refine (HS.out).mono ?_; rintro e_ w_ ⟨he_, hw_⟩; subst he_; have hs_ := hw_.symm; clear hw_; subst hs_)
      go_wp2
      go_ret3
      exact ⟨rfl, rfl⟩
    · rw [decide_eq_false (fun h => g2 (hh.1 h).2)]
      have d2 : (hdrCheck (decSize x) (decRefs x) == 0) = false := by simpa using g2
      clear hh g1
      generalize hdrCheck (decSize x) (decRefs x) = c at *
      generalize decSize x = sz at *
      generalize decRefs x = rf at *
      generalize x / 65536 = q1 at *
      generalize x / 4294967296 = q2 at *
      go_enter Tryz.func96, Tryz.ntmps96
      (go_wp2_with fail; refine (HS.out).mono ?_; rintro e_ w_ ⟨he_, hw_⟩; subst he_; have hs_ := hw_.symm; clear hw_; subst hs_)
      go_wp2
      go_ret3
      exact ⟨rfl, rfl⟩
  · rw [decide_eq_false (fun h => g1 (hh.1 h).1)]
    have d1 : (x / 4294967296 == 3070230528) = false := by simpa using g1
    clear hh g1
    generalize decSize x = sz at *
    generalize decRefs x = rf at *
    generalize x / 65536 = q1 at *
    generalize x / 4294967296 = q2 at *
    go_enter Tryz.func96, Tryz.ntmps96
    go_wp2
    go_ret3
    exact ⟨rfl, rfl⟩
end Go.Proofs.Qxb6500887aGreat
