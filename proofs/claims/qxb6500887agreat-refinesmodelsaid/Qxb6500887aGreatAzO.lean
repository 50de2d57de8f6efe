/- Bounds and stretches of addresses; the searches and counts between two addresses. -/
import Derived.Test.Qxb6500887aGreatAzM
namespace Go.Proofs.Qxb6500887aGreat
open Go.RowKit
set_option linter.unusedSimpArgs false
set_option linter.unusedVariables false

/-- BoundIndex. -/
def biV (x : Int) : Int × Int := if x = 98304 then (32768, 0) else if InH x then (x - 65536, 0) else (0, 1)
theorem biV_ok {x : Int} (h : (biV x).2 = 0) : (biV x).1 = x - 65536 ∧ 65536 ≤ x ∧ x ≤ 98304 := by
  unfold biV at h ⊢
  by_cases h1 : x = 98304
  · subst h1
    rw [if_pos rfl]
    exact ⟨by decide, by decide, by decide⟩
  · rw [if_neg h1] at h ⊢
    by_cases h2 : InH x
    · rw [if_pos h2]
      have := h2.1
      have := h2.2
      exact ⟨rfl, by omega, by omega⟩
    · rw [if_neg h2] at h
      exact absurd h (by decide)
theorem biV_no {x : Int} (h : (biV x).2 ≠ 0) : biV x = (0, 1) := by
  unfold biV at h ⊢
  by_cases h1 : x = 98304
  · rw [if_pos h1] at h; exact absurd rfl h
  · rw [if_neg h1] at h ⊢
    by_cases h2 : InH x
    · rw [if_pos h2] at h; exact absurd rfl h
    · rw [if_neg h2]
theorem boundIndexZ (x : Int) (w : World) : Calls Tryz.prog 275 #[.int .u64 x] w fun e w' => e = .returned (.tuple #[.int .i64 (biV x).1, .int .u8 (biV x).2]) ∧ w' = w := by
  unfold biV
  by_cases h : x = 98304
  · have d : (x == 98304) = true := by simp [h]
    rw [if_pos h]
    go_enter Tryz.func275, Tryz.ntmps275
    go_wp2
    go_ret2
    exact ⟨rfl, rfl⟩
  · have d : (x == 98304) = false := by simp [h]
    rw [if_neg h]
    by_cases hi : InH x
    · have HC := hid (fun w => wordIndex_in x hi w)
      rw [if_pos hi]
      clear hi h
      go_enter Tryz.func275, Tryz.ntmps275
      go_wp2_with (go_at_call 141; refine (HC.out _).mono ?_; rintro e w1 ⟨rfl, rfl⟩)
      go_ret2
      exact ⟨rfl, rfl⟩
    · have HC := hid (fun w => wordIndex_out x hi w)
      rw [if_neg hi]
      clear hi h
      go_enter Tryz.func275, Tryz.ntmps275
      go_wp2_with (go_at_call 141; refine (HC.out _).mono ?_; rintro e w1 ⟨rfl, rfl⟩)
      go_ret2
      exact ⟨rfl, rfl⟩
/-- bound. -/
def bnV (x : Int) (al : Bool) : Int × Int := if (biV x).2 = 0 then (if al = true ∧ (x - 65536) % 2 ≠ 0 then (0, 2) else (x - 65536, 0)) else (0, 1)
set_option maxRecDepth 100000 in
theorem boundZ (x : Int) (al : Bool) (w : World) : Calls Tryz.prog 256 #[.int .u64 x, .bool al] w fun e w' => e = .returned (.tuple #[.int .i64 (bnV x al).1, .int .u8 (bnV x al).2]) ∧ w' = w := by
  have HB := hid (boundIndexZ x w)
  unfold bnV
  by_cases hc : (biV x).2 = 0
  · rw [if_pos hc]
    obtain ⟨e1, b1, b2⟩ := biV_ok hc
    rw [hc, e1] at HB
    obtain ⟨y, hy⟩ : ∃ y, x - 65536 = y := ⟨_, rfl⟩
    have hy0 : 0 ≤ y := by omega
    have hy1 : y ≤ 32768 := by omega
    rw [hy] at HB ⊢
    clear hc e1 b1 b2 hy
    cases al
    · rw [if_neg (by simp)]
      go_enter Tryz.func256, Tryz.ntmps256
      (go_wp2_with fail; refine (HB.out).mono ?_; rintro e_ w_ ⟨he_, hw_⟩; subst he_; have hs_ := hw_.symm; clear hw_; subst hs_)
      go_wp2
      go_ret2
      exact ⟨rfl, rfl⟩
    · have ht : y.tmod 2 = y % 2 := Int.tmod_eq_emod_of_nonneg hy0
      by_cases ho : y % 2 = 0
      · have do1 : (y % 2 != 0) = false := by simp [ho]
        have do2 : (y % 2 == 0) = true := by simp [ho]
        rw [if_neg (by simp [ho])]
        go_enter Tryz.func256, Tryz.ntmps256
        (go_wp2_with fail; refine (HB.out).mono ?_; rintro e_ w_ ⟨he_, hw_⟩; subst he_; have hs_ := hw_.symm; clear hw_; subst hs_)
        go_wp2
        go_ret2
        exact ⟨rfl, rfl⟩
      · have do1 : (y % 2 != 0) = true := by simp [ho]
        have do2 : (y % 2 == 0) = false := by simp; omega
        rw [if_pos ⟨rfl, ho⟩]
        go_enter Tryz.func256, Tryz.ntmps256
        (go_wp2_with fail; refine (HB.out).mono ?_; rintro e_ w_ ⟨he_, hw_⟩; subst he_; have hs_ := hw_.symm; clear hw_; subst hs_)
        go_wp2
        go_ret2
        exact ⟨rfl, rfl⟩
  · rw [if_neg hc]
    rw [biV_no hc] at HB
    clear hc
    go_enter Tryz.func256, Tryz.ntmps256
    (go_wp2_with fail; refine (HB.out).mono ?_; rintro e_ w_ ⟨he_, hw_⟩; subst he_; have hs_ := hw_.symm; clear hw_; subst hs_)
    go_wp2
    go_ret2
    exact ⟨rfl, rfl⟩
theorem bnV_ok {x : Int} {al : Bool} (h : (bnV x al).2 = 0) : (bnV x al).1 = x - 65536 ∧ 65536 ≤ x ∧ x ≤ 98304 ∧ (al = true → x % 2 = 0) := by
  unfold bnV at h ⊢
  by_cases hc : (biV x).2 = 0
  · obtain ⟨e1, b1, b2⟩ := biV_ok hc
    rw [if_pos hc] at h ⊢
    split at h
    · exact absurd h (by decide)
    · rename_i hn
      rw [if_neg hn]
      refine ⟨rfl, b1, b2, fun ha => ?_⟩
      by_cases hx : x % 2 = 0
      · exact hx
      · exact absurd ⟨ha, by omega⟩ hn
  · rw [if_neg hc] at h
    exact absurd h (by decide)
theorem bnV_no {x : Int} {al : Bool} (h : (bnV x al).2 ≠ 0) : (bnV x al).1 = 0 := by
  unfold bnV at h ⊢
  split
  · rename_i hc
    rw [if_pos hc] at h
    split
    · rfl
    · rename_i hn
      rw [if_neg hn] at h
      exact absurd rfl h
  · rfl
/-- stretch: the code. -/
def stC (x y : Int) (al : Bool) : Int := if (bnV x al).2 = 0 then (if (bnV y al).2 = 0 then (if y < x then 7 else 0) else (bnV y al).2) else (bnV x al).2
theorem stC_ok {x y : Int} {al : Bool} (h : stC x y al = 0) : wIx x ≤ wIx y ∧ wIx y ≤ 32768 ∧ ((wIx x : Nat) : Int) = x - 65536 ∧ ((wIx y : Nat) : Int) = y - 65536 ∧ (bnV x al).2 = 0 ∧ (bnV y al).2 = 0 ∧ (al = true → wIx x % 2 = 0 ∧ wIx y % 2 = 0) := by
  unfold stC at h
  by_cases h1 : (bnV x al).2 = 0
  · rw [if_pos h1] at h
    by_cases h2 : (bnV y al).2 = 0
    · rw [if_pos h2] at h
      by_cases h3 : y < x
      · rw [if_pos h3] at h; exact absurd h (by decide)
      · obtain ⟨_, a1, a2, a3⟩ := bnV_ok h1
        obtain ⟨_, b1, b2, b3⟩ := bnV_ok h2
        unfold wIx
        refine ⟨by omega, by omega, by omega, by omega, h1, h2, fun ha => ?_⟩
        have := a3 ha
        have := b3 ha
        omega
    · rw [if_neg h2] at h; exact absurd h h2
  · rw [if_neg h1] at h; exact absurd h h1
set_option maxRecDepth 100000 in
theorem stretch_g {x y : Int} {al : Bool} (h : stC x y al = 0) (w : World) : Calls Tryz.prog 226 #[.int .u64 x, .int .u64 y, .bool al] w fun e w' => e = .returned (.tuple #[.int .i64 ((wIx x : Nat) : Int), .int .i64 ((wIx y : Nat) : Int), .int .u8 0]) ∧ w' = w := by
  obtain ⟨b1, b2, e1, e2, c1, c2, _⟩ := stC_ok h
  have H1 := hid (boundZ x al w)
  have H2 := hid (boundZ y al w)
  rw [c1, (bnV_ok c1).1, ← e1] at H1
  rw [c2, (bnV_ok c2).1, ← e2] at H2
  generalize wIx x = p at *
  generalize wIx y = q at *
  have dq : decide ((q : Int) < (p : Int)) = false := decide_eq_false (by omega)
  clear h e1 e2 c1 c2
  go_enter Tryz.func226, Tryz.ntmps226
  (go_wp2_with fail; refine (H1.out).mono ?_; rintro e_ w_ ⟨he_, hw_⟩; subst he_; have hs_ := hw_.symm; clear hw_; subst hs_)
  (go_wp2_with fail; refine (H2.out).mono ?_; rintro e_ w_ ⟨he_, hw_⟩; subst he_; have hs_ := hw_.symm; clear hw_; subst hs_)
  go_wp2
  refine bodyPost_ret (v := .tuple #[.int .i64 (p : Int), .int .i64 (q : Int), .int .u8 0]) (by simp [results, Tryz.results226, go_sem]) rfl ?_
  exact ⟨rfl, rfl⟩
set_option maxRecDepth 100000 in
theorem stretch_b {x y : Int} {al : Bool} (h : stC x y al ≠ 0) (w : World) : Calls Tryz.prog 226 #[.int .u64 x, .int .u64 y, .bool al] w fun e w' => e = .returned (.tuple #[.int .i64 0, .int .i64 0, .int .u8 (stC x y al)]) ∧ w' = w := by
  have H1 := hid (boundZ x al w)
  have H2 := hid (boundZ y al w)
  by_cases h1 : (bnV x al).2 = 0
  · rw [h1, (bnV_ok h1).1] at H1
    obtain ⟨_, a1, a2, _⟩ := bnV_ok h1
    by_cases h2 : (bnV y al).2 = 0
    · rw [h2, (bnV_ok h2).1] at H2
      obtain ⟨_, b1, b2, _⟩ := bnV_ok h2
      by_cases h3 : y < x
      · have hc : stC x y al = 7 := by unfold stC; rw [if_pos h1, if_pos h2, if_pos h3]
        rw [hc]
        obtain ⟨p, hp⟩ : ∃ p, x - 65536 = p := ⟨_, rfl⟩
        obtain ⟨q, hq⟩ : ∃ q, y - 65536 = q := ⟨_, rfl⟩
        rw [hp] at H1
        rw [hq] at H2
        have dq : decide (q < p) = true := decide_eq_true (by omega)
        clear hc h h1 h2 h3 hp hq a1 a2 b1 b2
        go_enter Tryz.func226, Tryz.ntmps226
        (go_wp2_with fail; refine (H1.out).mono ?_; rintro e_ w_ ⟨he_, hw_⟩; subst he_; have hs_ := hw_.symm; clear hw_; subst hs_)
        (go_wp2_with fail; refine (H2.out).mono ?_; rintro e_ w_ ⟨he_, hw_⟩; subst he_; have hs_ := hw_.symm; clear hw_; subst hs_)
        go_wp2
        refine bodyPost_ret (v := .tuple #[.int .i64 0, .int .i64 0, .int .u8 7]) (by simp [results, Tryz.results226, go_sem]) rfl ?_
        exact ⟨rfl, rfl⟩
      · exact absurd (by unfold stC; rw [if_pos h1, if_pos h2, if_neg h3]) h
    · have hc : stC x y al = (bnV y al).2 := by unfold stC; rw [if_pos h1, if_neg h2]
      rw [hc]
      rw [bnV_no h2] at H2
      have d2 : ((bnV y al).2 == 0) = false := by simpa using h2
      have d3 : ((bnV y al).2 != 0) = true := by simp [bne, d2]
      generalize (bnV y al).2 = c at *
      generalize x - 65536 = p at *
      clear hc h h1 h2 a1 a2
      go_enter Tryz.func226, Tryz.ntmps226
      (go_wp2_with fail; refine (H1.out).mono ?_; rintro e_ w_ ⟨he_, hw_⟩; subst he_; have hs_ := hw_.symm; clear hw_; subst hs_)
      (go_wp2_with fail; refine (H2.out).mono ?_; rintro e_ w_ ⟨he_, hw_⟩; subst he_; have hs_ := hw_.symm; clear hw_; subst hs_)
      go_wp2
      refine bodyPost_ret (v := .tuple #[.int .i64 0, .int .i64 0, .int .u8 c]) (by simp [results, Tryz.results226, go_sem]) rfl ?_
      exact ⟨rfl, rfl⟩
  · have hc : stC x y al = (bnV x al).2 := by unfold stC; rw [if_neg h1]
    rw [hc]
    rw [bnV_no h1] at H1
    have d2 : ((bnV x al).2 == 0) = false := by simpa using h1
    have d3 : ((bnV x al).2 != 0) = true := by simp [bne, d2]
    generalize (bnV x al).2 = c at *
    clear hc h h1 H2
    go_enter Tryz.func226, Tryz.ntmps226
    (go_wp2_with fail; refine (H1.out).mono ?_; rintro e_ w_ ⟨he_, hw_⟩; subst he_; have hs_ := hw_.symm; clear hw_; subst hs_)
    go_wp2
    refine bodyPost_ret (v := .tuple #[.int .i64 0, .int .i64 0, .int .u8 c]) (by simp [results, Tryz.results226, go_sem]) rfl ?_
    exact ⟨rfl, rfl⟩
end Go.Proofs.Qxb6500887aGreat
