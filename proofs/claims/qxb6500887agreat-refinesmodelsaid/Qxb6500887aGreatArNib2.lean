/- Counting ones in a word of nibbles that are 0 or 1. -/
import Derived.Test.Qxb6500887aGreatArNib
namespace Go.Proofs.Qxb6500887aGreat
open Go.RowKit
set_option linter.unusedSimpArgs false
set_option linter.unusedVariables false

theorem nib_ext {x y : Nat} (hx : x < 18446744073709551616) (hy : y < 18446744073709551616) (h : ∀ j, j < 16 → nib x j = nib y j) : x = y := by
  rw [dig hx, dig hy]
  rw [h 0 (by omega), h 1 (by omega), h 2 (by omega), h 3 (by omega), h 4 (by omega), h 5 (by omega), h 6 (by omega), h 7 (by omega), h 8 (by omega), h 9 (by omega), h 10 (by omega), h 11 (by omega), h 12 (by omega), h 13 (by omega), h 14 (by omega), h 15 (by omega)]
theorem nib_shr4 (y j : Nat) : nib (y >>> 4) j = nib y (j + 1) := by
  unfold nib
  rw [← Nat.shiftRight_add]
  congr 2
  omega
theorem nib_high {y j : Nat} (h : y < 18446744073709551616) (hj : 16 ≤ j) : nib y j = 0 := by
  unfold nib
  rw [Nat.shiftRight_eq_div_pow, Nat.div_eq_of_lt]
  calc y < 2 ^ 64 := h
    _ ≤ 2 ^ (4 * j) := Nat.pow_le_pow_right (by omega) (by omega)
theorem nib_shr (y j k : Nat) (hk : k = 1 ∨ k = 2) (h0 : nib y j ≤ 1) (h1 : nib y (j + 1) ≤ 1) : nib (y >>> k) j = (16 / 2 ^ k) * nib y (j + 1) := by
  have e1 : nib y (j + 1) = (y >>> (4 * j)) / 16 % 16 := by
    unfold nib
    rw [show 4 * (j + 1) = 4 * j + 4 by omega, Nat.shiftRight_add, Nat.shiftRight_eq_div_pow (y >>> (4 * j)) 4]
  have e2 : nib (y >>> k) j = (y >>> (4 * j)) / 2 ^ k % 16 := by
    unfold nib
    rw [← Nat.shiftRight_add, Nat.add_comm, Nat.shiftRight_add, Nat.shiftRight_eq_div_pow (y >>> (4 * j)) k]
  rw [e1] at h1
  rw [e1, e2]
  unfold nib at h0
  generalize y >>> (4 * j) = q at *
  rcases hk with rfl | rfl
  · simp only [Nat.reducePow, Nat.reduceDiv] at *
    omega
  · simp only [Nat.reducePow, Nat.reduceDiv] at *
    omega
theorem con_tab : ((List.range 16).all fun j => nib 6148914691236517205 j == 5 && nib 3689348814741910323 j == 3 && nib 1085102592571150095 j == (if j % 2 = 0 then 15 else 0)) = true := by kernel_rfl
theorem nib_con {j : Nat} (hj : j < 16) : nib 6148914691236517205 j = 5 ∧ nib 3689348814741910323 j = 3 ∧ nib 1085102592571150095 j = (if j % 2 = 0 then 15 else 0) := by
  have h := List.all_eq_true.1 con_tab j (List.mem_range.2 hj)
  rw [Bool.and_eq_true, Bool.and_eq_true] at h
  exact ⟨eq_of_beq h.1.1, eq_of_beq h.1.2, eq_of_beq h.2⟩
theorem and_lt64 (x c : Nat) (hc : c < 18446744073709551616) : x &&& c < 18446744073709551616 := Nat.lt_of_le_of_lt Nat.and_le_right hc
section
variable {y : Nat}
theorem nib_all (hy : y < 18446744073709551616) (h : ∀ j, j < 16 → nib y j ≤ 1) (j : Nat) : nib y j ≤ 1 := by
  by_cases hj : j < 16
  · exact h j hj
  · rw [nib_high hy (by omega)]; omega
theorem oc_a (hy : y < 18446744073709551616) (h : ∀ j, j < 16 → nib y j ≤ 1) : (y >>> 1) &&& 6148914691236517205 = 0 := by
  refine nib_ext (and_lt64 _ _ (by decide)) (by decide) fun j hj => ?_
  rw [nib_and, (nib_con hj).1, nib_shr y j 1 (.inl rfl) (nib_all hy h _) (nib_all hy h _)]
  have := nib_all hy h (j + 1)
  have e : nib 0 j = 0 := by unfold nib; simp
  rw [e]
  rcases (by omega : nib y (j + 1) = 0 ∨ nib y (j + 1) = 1) with q | q <;> rw [q] <;> rfl
theorem oc_b (hy : y < 18446744073709551616) (h : ∀ j, j < 16 → nib y j ≤ 1) : y &&& 3689348814741910323 = y := by
  refine nib_ext (and_lt64 _ _ (by decide)) hy fun j hj => ?_
  rw [nib_and, (nib_con hj).2.1]
  have := nib_all hy h j
  rcases (by omega : nib y j = 0 ∨ nib y j = 1) with q | q <;> rw [q] <;> rfl
theorem oc_c (hy : y < 18446744073709551616) (h : ∀ j, j < 16 → nib y j ≤ 1) : (y >>> 2) &&& 3689348814741910323 = 0 := by
  refine nib_ext (and_lt64 _ _ (by decide)) (by decide) fun j hj => ?_
  rw [nib_and, (nib_con hj).2.1, nib_shr y j 2 (.inr rfl) (nib_all hy h _) (nib_all hy h _)]
  have := nib_all hy h (j + 1)
  have e : nib 0 j = 0 := by unfold nib; simp
  rw [e]
  rcases (by omega : nib y (j + 1) = 0 ∨ nib y (j + 1) = 1) with q | q <;> rw [q] <;> rfl
def sumN (y : Nat) : Nat := nib y 0 + nib y 1 + nib y 2 + nib y 3 + nib y 4 + nib y 5 + nib y 6 + nib y 7 + nib y 8 + nib y 9 + nib y 10 + nib y 11 + nib y 12 + nib y 13 + nib y 14 + nib y 15
theorem oc_sum (hy : y < 18446744073709551616) (h : ∀ j, j < 16 → nib y j ≤ 1) : y + y >>> 4 < 18446744073709551616 ∧ ∀ j, j < 16 → nib (y + y >>> 4) j = nib y j + nib y (j + 1) := by
  have hz : y >>> 4 < 18446744073709551616 := Nat.lt_of_le_of_lt (Nat.shiftRight_le y 4) hy
  refine of_dig (fun j => nib y j + nib y (j + 1)) (fun j => by have := nib_all hy h j; have := nib_all hy h (j + 1); omega) ?_
  have d1 := dig hy
  have d2 := dig hz
  simp only [nib_shr4] at d2
  rw [nib_high hy (show 16 ≤ 15 + 1 by omega)] at d2
  simp only [Nat.reduceAdd] at d2
  have h16 : nib y 16 = 0 := nib_high hy (by omega)
  simp only [Nat.reduceAdd, h16]
  generalize y >>> 4 = s at *
  omega
theorem oc_d (hy : y < 18446744073709551616) (h : ∀ j, j < 16 → nib y j ≤ 1) : ((((y + y >>> 4) &&& 1085102592571150095) * 72340172838076673) % 18446744073709551616) >>> 56 = sumN y := by
  obtain ⟨h1, h2⟩ := oc_sum hy h
  have hX := dig (and_lt64 (y + y >>> 4) 1085102592571150095 (by decide))
  have hn : ∀ j, j < 16 → nib ((y + y >>> 4) &&& 1085102592571150095) j = if j % 2 = 0 then nib y j + nib y (j + 1) else 0 := fun j hj => by
    rw [nib_and, (nib_con hj).2.2, h2 j hj]
    have := nib_all hy h j
    have := nib_all hy h (j + 1)
    split
    · exact and15 (by omega)
    · exact Nat.and_zero _
  rw [hn 0 (by omega), hn 1 (by omega), hn 2 (by omega), hn 3 (by omega), hn 4 (by omega), hn 5 (by omega), hn 6 (by omega), hn 7 (by omega), hn 8 (by omega), hn 9 (by omega), hn 10 (by omega), hn 11 (by omega), hn 12 (by omega), hn 13 (by omega), hn 14 (by omega), hn 15 (by omega)] at hX
  simp only [Nat.reduceMod, Nat.reduceAdd, if_true, Nat.reduceEqDiff, if_false, Nat.mul_zero, Nat.add_zero, Nat.one_ne_zero] at hX
  generalize (y + y >>> 4) &&& 1085102592571150095 = X at *
  unfold sumN
  have b0 := nib_all hy h 0
  have b1 := nib_all hy h 1
  have b2 := nib_all hy h 2
  have b3 := nib_all hy h 3
  have b4 := nib_all hy h 4
  have b5 := nib_all hy h 5
  have b6 := nib_all hy h 6
  have b7 := nib_all hy h 7
  have b8 := nib_all hy h 8
  have b9 := nib_all hy h 9
  have b10 := nib_all hy h 10
  have b11 := nib_all hy h 11
  have b12 := nib_all hy h 12
  have b13 := nib_all hy h 13
  have b14 := nib_all hy h 14
  have b15 := nib_all hy h 15
  obtain ⟨f0, g0⟩ : ∃ f, nib y 0 + nib y 1 = f := ⟨_, rfl⟩
  obtain ⟨f1, g1⟩ : ∃ f, nib y 2 + nib y 3 = f := ⟨_, rfl⟩
  obtain ⟨f2, g2⟩ : ∃ f, nib y 4 + nib y 5 = f := ⟨_, rfl⟩
  obtain ⟨f3, g3⟩ : ∃ f, nib y 6 + nib y 7 = f := ⟨_, rfl⟩
  obtain ⟨f4, g4⟩ : ∃ f, nib y 8 + nib y 9 = f := ⟨_, rfl⟩
  obtain ⟨f5, g5⟩ : ∃ f, nib y 10 + nib y 11 = f := ⟨_, rfl⟩
  obtain ⟨f6, g6⟩ : ∃ f, nib y 12 + nib y 13 = f := ⟨_, rfl⟩
  obtain ⟨f7, g7⟩ : ∃ f, nib y 14 + nib y 15 = f := ⟨_, rfl⟩
  rw [g0, g1, g2, g3, g4, g5, g6, g7] at hX
  have hs : nib y 0 + nib y 1 + nib y 2 + nib y 3 + nib y 4 + nib y 5 + nib y 6 + nib y 7 + nib y 8 + nib y 9 + nib y 10 + nib y 11 + nib y 12 + nib y 13 + nib y 14 + nib y 15 = f0 + f1 + f2 + f3 + f4 + f5 + f6 + f7 := by omega
  rw [hs]
  have c0 : f0 ≤ 2 := by omega
  have c1 : f1 ≤ 2 := by omega
  have c2 : f2 ≤ 2 := by omega
  have c3 : f3 ≤ 2 := by omega
  have c4 : f4 ≤ 2 := by omega
  have c5 : f5 ≤ 2 := by omega
  have c6 : f6 ≤ 2 := by omega
  have c7 : f7 ≤ 2 := by omega
  clear hs g0 g1 g2 g3 g4 g5 g6 g7 b0 b1 b2 b3 b4 b5 b6 b7 b8 b9 b10 b11 b12 b13 b14 b15 hn h1 h2
  have e : X * 72340172838076673 = 18446744073709551616 * (f1 + f2 * 257 + f3 * 65793 + f4 * 16843009 + f5 * 4311810305 + f6 * 1103823438081 + f7 * 282578800148737) + (f0 * 72340172838076673 + f1 * 72340172838076672 + f2 * 72340172838076416 + f3 * 72340172838010880 + f4 * 72340172821233664 + f5 * 72340168526266368 + f6 * 72339069014638592 + f7 * 72057594037927936) := by
    subst hX
    omega
  rw [e, Nat.mul_add_mod, Nat.mod_eq_of_lt (by omega), Nat.shiftRight_eq_div_pow]
  simp only [Nat.reducePow]
  omega
end
end Go.Proofs.Qxb6500887aGreat
