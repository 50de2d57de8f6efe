/- How many bits of a word are set (written by tools/mk_ax1.py). -/
import Derived.Test.Qxb6500887aGreatAz7
namespace Go.Proofs.Qxb6500887aGreat
open Go.RowKit
set_option linter.unusedSimpArgs false
set_option linter.unusedVariables false
section
variable {y : Nat}
theorem nib_all4 (hy : y < 18446744073709551616) (h : ∀ j, j < 16 → nib y j ≤ 4) (j : Nat) : nib y j ≤ 4 := by
  by_cases hj : j < 16
  · exact h j hj
  · rw [nib_high hy (by omega)]; omega
theorem oc4_sum (hy : y < 18446744073709551616) (h : ∀ j, j < 16 → nib y j ≤ 4) : y + y >>> 4 < 18446744073709551616 ∧ ∀ j, j < 16 → nib (y + y >>> 4) j = nib y j + nib y (j + 1) := by
  have hz : y >>> 4 < 18446744073709551616 := Nat.lt_of_le_of_lt (Nat.shiftRight_le y 4) hy
  refine of_dig (fun j => nib y j + nib y (j + 1)) (fun j => by have := nib_all4 hy h j; have := nib_all4 hy h (j + 1); omega) ?_
  have d1 := dig hy
  have d2 := dig hz
  simp only [nib_shr4] at d2
  rw [nib_high hy (show 16 ≤ 15 + 1 by omega)] at d2
  simp only [Nat.reduceAdd] at d2
  have h16 : nib y 16 = 0 := nib_high hy (by omega)
  simp only [Nat.reduceAdd, h16]
  generalize y >>> 4 = s at *
  omega
theorem oc4_d (hy : y < 18446744073709551616) (h : ∀ j, j < 16 → nib y j ≤ 4) : ((((y + y >>> 4) &&& 1085102592571150095) * 72340172838076673) % 18446744073709551616) >>> 56 = sumN y := by
  obtain ⟨h1, h2⟩ := oc4_sum hy h
  have hX := dig (and_lt64 (y + y >>> 4) 1085102592571150095 (by decide))
  have hn : ∀ j, j < 16 → nib ((y + y >>> 4) &&& 1085102592571150095) j = if j % 2 = 0 then nib y j + nib y (j + 1) else 0 := fun j hj => by
    rw [nib_and, (nib_con hj).2.2, h2 j hj]
    have := nib_all4 hy h j
    have := nib_all4 hy h (j + 1)
    split
    · exact and15 (by omega)
    · exact Nat.and_zero _
  rw [hn 0 (by omega), hn 1 (by omega), hn 2 (by omega), hn 3 (by omega), hn 4 (by omega), hn 5 (by omega), hn 6 (by omega), hn 7 (by omega), hn 8 (by omega), hn 9 (by omega), hn 10 (by omega), hn 11 (by omega), hn 12 (by omega), hn 13 (by omega), hn 14 (by omega), hn 15 (by omega)] at hX
  simp only [Nat.reduceMod, Nat.reduceAdd, if_true, Nat.reduceEqDiff, if_false, Nat.mul_zero, Nat.add_zero, Nat.one_ne_zero] at hX
  generalize (y + y >>> 4) &&& 1085102592571150095 = X at *
  unfold sumN
  have b0 := nib_all4 hy h 0
  have b1 := nib_all4 hy h 1
  have b2 := nib_all4 hy h 2
  have b3 := nib_all4 hy h 3
  have b4 := nib_all4 hy h 4
  have b5 := nib_all4 hy h 5
  have b6 := nib_all4 hy h 6
  have b7 := nib_all4 hy h 7
  have b8 := nib_all4 hy h 8
  have b9 := nib_all4 hy h 9
  have b10 := nib_all4 hy h 10
  have b11 := nib_all4 hy h 11
  have b12 := nib_all4 hy h 12
  have b13 := nib_all4 hy h 13
  have b14 := nib_all4 hy h 14
  have b15 := nib_all4 hy h 15
  obtain ⟨f0, g0⟩ : ∃ f, nib y 0 + nib y 1 = f := ⟨_, rfl⟩
  obtain ⟨f1, g1⟩ : ∃ f, nib y 2 + nib y 3 = f := ⟨_, rfl⟩
  obtain ⟨f2, g2⟩ : ∃ f, nib y 4 + nib y 5 = f := ⟨_, rfl⟩
  obtain ⟨f3, g3⟩ : ∃ f, nib y 6 + nib y 7 = f := ⟨_, rfl⟩
  obtain ⟨f4, g4⟩ : ∃ f, nib y 8 + nib y 9 = f := ⟨_, rfl⟩
  obtain ⟨f5, g5⟩ : ∃ f, nib y 10 + nib y 11 = f := ⟨_, rfl⟩
  obtain ⟨f6, g6⟩ : ∃ f, nib y 12 + nib y 13 = f := ⟨_, rfl⟩
  obtain ⟨f7, g7⟩ : ∃ f, nib y 14 + nib y 15 = f := ⟨_, rfl⟩
  rw [g0, g1, g2, g3, g4, g5, g6, g7] at hX
  have hs : nib y 0 + nib y 1 + nib y 2 + nib y 3 + nib y 4 + nib y 5 + nib y 6 + nib y 7 + nib y 8 + nib y 9 + nib y 10 + nib y 11 + nib y 12 + nib y 13 + nib y 14 + nib y 15 = f0 + f1 + f2 + f3 + f4 + f5 + f6 + f7 := by omega
  rw [hs]
  have c0 : f0 ≤ 8 := by omega
  have c1 : f1 ≤ 8 := by omega
  have c2 : f2 ≤ 8 := by omega
  have c3 : f3 ≤ 8 := by omega
  have c4 : f4 ≤ 8 := by omega
  have c5 : f5 ≤ 8 := by omega
  have c6 : f6 ≤ 8 := by omega
  have c7 : f7 ≤ 8 := by omega
  clear hs g0 g1 g2 g3 g4 g5 g6 g7 b0 b1 b2 b3 b4 b5 b6 b7 b8 b9 b10 b11 b12 b13 b14 b15 hn h1 h2
  have e : X * 72340172838076673 = 18446744073709551616 * (f1 + f2 * 257 + f3 * 65793 + f4 * 16843009 + f5 * 4311810305 + f6 * 1103823438081 + f7 * 282578800148737) + (f0 * 72340172838076673 + f1 * 72340172838076672 + f2 * 72340172838076416 + f3 * 72340172838010880 + f4 * 72340172821233664 + f5 * 72340168526266368 + f6 * 72339069014638592 + f7 * 72057594037927936) := by
    subst hX
    omega
  rw [e, Nat.mul_add_mod, Nat.mod_eq_of_lt (by omega), Nat.shiftRight_eq_div_pow]
  simp only [Nat.reducePow]
  omega
/-- The nibbles of a shifted word, under a mask that keeps what is the nibble's own. -/
theorem nib_shrk (y j k : Nat) (hk : k = 1 ∨ k = 2) : nib (y >>> k) j = nib y j / 2 ^ k + (16 / 2 ^ k) * (nib y (j + 1) % 2 ^ k) := by
  have e1 : nib y (j + 1) = (y >>> (4 * j)) / 16 % 16 := by
    unfold nib
    rw [show 4 * (j + 1) = 4 * j + 4 by omega, Nat.shiftRight_add, Nat.shiftRight_eq_div_pow (y >>> (4 * j)) 4]
  have e2 : nib (y >>> k) j = (y >>> (4 * j)) / 2 ^ k % 16 := by
    unfold nib
    rw [← Nat.shiftRight_add, Nat.add_comm, Nat.shiftRight_add, Nat.shiftRight_eq_div_pow (y >>> (4 * j)) k]
  rw [e1, e2]
  unfold nib
  generalize y >>> (4 * j) = q at *
  rcases hk with rfl | rfl
  · simp only [Nat.reducePow, Nat.reduceDiv] at *
    omega
  · simp only [Nat.reducePow, Nat.reduceDiv] at *
    omega
theorem s1_tab : ((List.range 16).all fun n => (List.range 16).all fun m => ((n / 2 ^ 1 + (16 / 2 ^ 1) * (m % 2 ^ 1)) &&& 5) == ((n / 2) &&& 5) && decide ((n / 2) &&& 5 ≤ n)) = true := by kernel_rfl
theorem s2_tab : ((List.range 16).all fun n => (List.range 16).all fun m => ((n / 2 ^ 2 + (16 / 2 ^ 2) * (m % 2 ^ 2)) &&& 3) == ((n / 4) &&& 3)) = true := by kernel_rfl
def pc (n : Nat) : Nat := (n.testBit 0).toNat + (n.testBit 1).toNat + (n.testBit 2).toNat + (n.testBit 3).toNat
theorem s3_tab : ((List.range 16).all fun n => ((n - ((n / 2) &&& 5)) &&& 3) + (((n - ((n / 2) &&& 5)) / 4) &&& 3) == pc n && decide (pc n ≤ 4)) = true := by kernel_rfl
theorem s1_nib (y : Nat) {j : Nat} (hj : j < 16) : nib ((y >>> 1) &&& 6148914691236517205) j = (nib y j / 2) &&& 5 ∧ (nib y j / 2) &&& 5 ≤ nib y j := by
  have h := List.all_eq_true.1 (List.all_eq_true.1 s1_tab (nib y j) (List.mem_range.2 (nib_lt y j))) (nib y (j + 1)) (List.mem_range.2 (nib_lt y (j + 1)))
  rw [Bool.and_eq_true] at h
  rw [nib_and, (nib_con hj).1, nib_shrk y j 1 (.inl rfl)]
  exact ⟨eq_of_beq h.1, of_decide_eq_true h.2⟩
theorem s2_nib (y : Nat) {j : Nat} (hj : j < 16) : nib ((y >>> 2) &&& 3689348814741910323) j = (nib y j / 4) &&& 3 := by
  have h := List.all_eq_true.1 (List.all_eq_true.1 s2_tab (nib y j) (List.mem_range.2 (nib_lt y j))) (nib y (j + 1)) (List.mem_range.2 (nib_lt y (j + 1)))
  rw [nib_and, (nib_con hj).2.1, nib_shrk y j 2 (.inr rfl)]
  exact eq_of_beq h
theorem s3_nib {n : Nat} (h : n < 16) : ((n - ((n / 2) &&& 5)) &&& 3) + (((n - ((n / 2) &&& 5)) / 4) &&& 3) = pc n ∧ pc n ≤ 4 := by
  have h := List.all_eq_true.1 s3_tab n (List.mem_range.2 h)
  rw [Bool.and_eq_true] at h
  exact ⟨eq_of_beq h.1, of_decide_eq_true h.2⟩
theorem add_dig {x z : Nat} (a b : Nat → Nat) (hd : ∀ j, a j + b j < 16) (d1 : x = a 0 + 16 * a 1 + 256 * a 2 + 4096 * a 3 + 65536 * a 4 + 1048576 * a 5 + 16777216 * a 6 + 268435456 * a 7 + 4294967296 * a 8 + 68719476736 * a 9 + 1099511627776 * a 10 + 17592186044416 * a 11 + 281474976710656 * a 12 + 4503599627370496 * a 13 + 72057594037927936 * a 14 + 1152921504606846976 * a 15) (d2 : z = b 0 + 16 * b 1 + 256 * b 2 + 4096 * b 3 + 65536 * b 4 + 1048576 * b 5 + 16777216 * b 6 + 268435456 * b 7 + 4294967296 * b 8 + 68719476736 * b 9 + 1099511627776 * b 10 + 17592186044416 * b 11 + 281474976710656 * b 12 + 4503599627370496 * b 13 + 72057594037927936 * b 14 + 1152921504606846976 * b 15) : x + z < 18446744073709551616 ∧ ∀ j, j < 16 → nib (x + z) j = a j + b j := by
  refine of_dig (fun j => a j + b j) hd ?_
  subst d1 d2
  simp only [Nat.mul_add]
  omega
theorem sub_dig {y z : Nat} (n d : Nat → Nat) (hd : ∀ j, d j < 16) (d1 : y = (n 0 + d 0) + 16 * (n 1 + d 1) + 256 * (n 2 + d 2) + 4096 * (n 3 + d 3) + 65536 * (n 4 + d 4) + 1048576 * (n 5 + d 5) + 16777216 * (n 6 + d 6) + 268435456 * (n 7 + d 7) + 4294967296 * (n 8 + d 8) + 68719476736 * (n 9 + d 9) + 1099511627776 * (n 10 + d 10) + 17592186044416 * (n 11 + d 11) + 281474976710656 * (n 12 + d 12) + 4503599627370496 * (n 13 + d 13) + 72057594037927936 * (n 14 + d 14) + 1152921504606846976 * (n 15 + d 15)) (d2 : z = n 0 + 16 * n 1 + 256 * n 2 + 4096 * n 3 + 65536 * n 4 + 1048576 * n 5 + 16777216 * n 6 + 268435456 * n 7 + 4294967296 * n 8 + 68719476736 * n 9 + 1099511627776 * n 10 + 17592186044416 * n 11 + 281474976710656 * n 12 + 4503599627370496 * n 13 + 72057594037927936 * n 14 + 1152921504606846976 * n 15) : z ≤ y ∧ y - z < 18446744073709551616 ∧ ∀ j, j < 16 → nib (y - z) j = d j := by
  have d3 := split16 n d d1 d2
  clear d1 d2
  obtain ⟨x, hx⟩ : ∃ x, d 0 + 16 * d 1 + 256 * d 2 + 4096 * d 3 + 65536 * d 4 + 1048576 * d 5 + 16777216 * d 6 + 268435456 * d 7 + 4294967296 * d 8 + 68719476736 * d 9 + 1099511627776 * d 10 + 17592186044416 * d 11 + 281474976710656 * d 12 + 4503599627370496 * d 13 + 72057594037927936 * d 14 + 1152921504606846976 * d 15 = x := ⟨_, rfl⟩
  rw [hx] at d3
  obtain ⟨o1, o2⟩ := of_dig d hd hx.symm
  clear hx
  subst d3
  rw [Nat.add_sub_cancel_left]
  exact ⟨Nat.le_add_right _ _, o1, o2⟩
/-- The first step takes from each nibble its own. -/
theorem s1_sub (hy : y < 18446744073709551616) : (y >>> 1) &&& 6148914691236517205 ≤ y ∧ y - ((y >>> 1) &&& 6148914691236517205) < 18446744073709551616 ∧ ∀ j, j < 16 → nib (y - ((y >>> 1) &&& 6148914691236517205)) j = nib y j - ((nib y j / 2) &&& 5) := by
  have hz : (y >>> 1) &&& 6148914691236517205 < 18446744073709551616 := and_lt64 _ _ (by decide)
  have d2 := dig hz
  rw [(s1_nib y (j := 0) (by omega)).1, (s1_nib y (j := 1) (by omega)).1, (s1_nib y (j := 2) (by omega)).1, (s1_nib y (j := 3) (by omega)).1, (s1_nib y (j := 4) (by omega)).1, (s1_nib y (j := 5) (by omega)).1, (s1_nib y (j := 6) (by omega)).1, (s1_nib y (j := 7) (by omega)).1, (s1_nib y (j := 8) (by omega)).1, (s1_nib y (j := 9) (by omega)).1, (s1_nib y (j := 10) (by omega)).1, (s1_nib y (j := 11) (by omega)).1, (s1_nib y (j := 12) (by omega)).1, (s1_nib y (j := 13) (by omega)).1, (s1_nib y (j := 14) (by omega)).1, (s1_nib y (j := 15) (by omega)).1] at d2
  have hk : ∀ j, j < 16 → nib y j = (nib y j / 2 &&& 5) + (nib y j - (nib y j / 2 &&& 5)) := fun j hj => (Nat.add_sub_cancel' (s1_nib y hj).2).symm
  have hdl : ∀ j, nib y j - (nib y j / 2 &&& 5) < 16 := fun j => Nat.lt_of_le_of_lt (Nat.sub_le _ _) (nib_lt y j)
  have d1 : y = ((nib y 0 / 2 &&& 5) + (nib y 0 - (nib y 0 / 2 &&& 5))) + 16 * ((nib y 1 / 2 &&& 5) + (nib y 1 - (nib y 1 / 2 &&& 5))) + 256 * ((nib y 2 / 2 &&& 5) + (nib y 2 - (nib y 2 / 2 &&& 5))) + 4096 * ((nib y 3 / 2 &&& 5) + (nib y 3 - (nib y 3 / 2 &&& 5))) + 65536 * ((nib y 4 / 2 &&& 5) + (nib y 4 - (nib y 4 / 2 &&& 5))) + 1048576 * ((nib y 5 / 2 &&& 5) + (nib y 5 - (nib y 5 / 2 &&& 5))) + 16777216 * ((nib y 6 / 2 &&& 5) + (nib y 6 - (nib y 6 / 2 &&& 5))) + 268435456 * ((nib y 7 / 2 &&& 5) + (nib y 7 - (nib y 7 / 2 &&& 5))) + 4294967296 * ((nib y 8 / 2 &&& 5) + (nib y 8 - (nib y 8 / 2 &&& 5))) + 68719476736 * ((nib y 9 / 2 &&& 5) + (nib y 9 - (nib y 9 / 2 &&& 5))) + 1099511627776 * ((nib y 10 / 2 &&& 5) + (nib y 10 - (nib y 10 / 2 &&& 5))) + 17592186044416 * ((nib y 11 / 2 &&& 5) + (nib y 11 - (nib y 11 / 2 &&& 5))) + 281474976710656 * ((nib y 12 / 2 &&& 5) + (nib y 12 - (nib y 12 / 2 &&& 5))) + 4503599627370496 * ((nib y 13 / 2 &&& 5) + (nib y 13 - (nib y 13 / 2 &&& 5))) + 72057594037927936 * ((nib y 14 / 2 &&& 5) + (nib y 14 - (nib y 14 / 2 &&& 5))) + 1152921504606846976 * ((nib y 15 / 2 &&& 5) + (nib y 15 - (nib y 15 / 2 &&& 5))) := by
    rw [← hk 0 (by omega), ← hk 1 (by omega), ← hk 2 (by omega), ← hk 3 (by omega), ← hk 4 (by omega), ← hk 5 (by omega), ← hk 6 (by omega), ← hk 7 (by omega), ← hk 8 (by omega), ← hk 9 (by omega), ← hk 10 (by omega), ← hk 11 (by omega), ← hk 12 (by omega), ← hk 13 (by omega), ← hk 14 (by omega), ← hk 15 (by omega)]
    exact dig hy
  exact sub_dig (fun j => nib y j / 2 &&& 5) (fun j => nib y j - (nib y j / 2 &&& 5)) hdl d1 d2
theorem s2_sum {s : Nat} (hs : s < 18446744073709551616) : (s &&& 3689348814741910323) + ((s >>> 2) &&& 3689348814741910323) < 18446744073709551616 ∧ ∀ j, j < 16 → nib ((s &&& 3689348814741910323) + ((s >>> 2) &&& 3689348814741910323)) j = (nib s j &&& 3) + ((nib s j / 4) &&& 3) := by
  have d1 := dig (and_lt64 s 3689348814741910323 (by decide))
  have d2 := dig (and_lt64 (s >>> 2) 3689348814741910323 (by decide))
  rw [s2_nib s (j := 0) (by omega), s2_nib s (j := 1) (by omega), s2_nib s (j := 2) (by omega), s2_nib s (j := 3) (by omega), s2_nib s (j := 4) (by omega), s2_nib s (j := 5) (by omega), s2_nib s (j := 6) (by omega), s2_nib s (j := 7) (by omega), s2_nib s (j := 8) (by omega), s2_nib s (j := 9) (by omega), s2_nib s (j := 10) (by omega), s2_nib s (j := 11) (by omega), s2_nib s (j := 12) (by omega), s2_nib s (j := 13) (by omega), s2_nib s (j := 14) (by omega), s2_nib s (j := 15) (by omega)] at d2
  have ha : ∀ j, j < 16 → nib (s &&& 3689348814741910323) j = nib s j &&& 3 := fun j hj => by rw [nib_and, (nib_con hj).2.1]
  rw [ha 0 (by omega), ha 1 (by omega), ha 2 (by omega), ha 3 (by omega), ha 4 (by omega), ha 5 (by omega), ha 6 (by omega), ha 7 (by omega), ha 8 (by omega), ha 9 (by omega), ha 10 (by omega), ha 11 (by omega), ha 12 (by omega), ha 13 (by omega), ha 14 (by omega), ha 15 (by omega)] at d1
  exact add_dig (fun j => nib s j &&& 3) (fun j => (nib s j / 4) &&& 3) (fun j => by
    have h1 : nib s j &&& 3 ≤ 3 := Nat.and_le_right
    have h2 : (nib s j / 4) &&& 3 ≤ 3 := Nat.and_le_right
    show (nib s j &&& 3) + ((nib s j / 4) &&& 3) < 16
    omega) d1 d2
theorem testBit_nib (x j i : Nat) (hi : i < 4) : (nib x j).testBit i = x.testBit (4 * j + i) := by
  unfold nib
  rw [show (16 : Nat) = 2 ^ 4 from rfl, Nat.testBit_mod_two_pow, Nat.testBit_shiftRight]
  simp [hi]
theorem pc_nib (x j : Nat) : pc (nib x j) = (x.testBit (4 * j)).toNat + (x.testBit (4 * j + 1)).toNat + (x.testBit (4 * j + 2)).toNat + (x.testBit (4 * j + 3)).toNat := by
  unfold pc
  rw [testBit_nib x j 0 (by omega), testBit_nib x j 1 (by omega), testBit_nib x j 2 (by omega), testBit_nib x j 3 (by omega), Nat.add_zero]
theorem cnt4 (P : Nat → Bool) (h : Nat) : cnt P (4 * (h + 1)) = cnt P (4 * h) + ((P (4 * h)).toNat + (P (4 * h + 1)).toNat + (P (4 * h + 2)).toNat + (P (4 * h + 3)).toNat) := by
  rw [show 4 * (h + 1) = 4 * h + 1 + 1 + 1 + 1 by omega]
  simp only [cnt]
  omega
def sPc (x : Nat) : Nat → Nat
  | 0 => 0
  | h + 1 => sPc x h + pc (nib x h)
theorem sPc_eq (x : Nat) : ∀ h, cnt x.testBit (4 * h) = sPc x h
  | 0 => rfl
  | h + 1 => by rw [cnt4, sPc_eq x h]; show _ = sPc x h + pc (nib x h); rw [pc_nib]
theorem cnt64 (x : Nat) : cnt x.testBit 64 = pc (nib x 0) + pc (nib x 1) + pc (nib x 2) + pc (nib x 3) + pc (nib x 4) + pc (nib x 5) + pc (nib x 6) + pc (nib x 7) + pc (nib x 8) + pc (nib x 9) + pc (nib x 10) + pc (nib x 11) + pc (nib x 12) + pc (nib x 13) + pc (nib x 14) + pc (nib x 15) := by
  rw [show (64 : Nat) = 4 * 16 from rfl, sPc_eq]
  simp only [sPc, Nat.zero_add]
theorem cnt_bnd (P : Nat → Bool) : ∀ n, cnt P n ≤ n
  | 0 => Nat.le_refl _
  | n + 1 => by have := cnt_bnd P n; unfold cnt; cases P n <;> simp <;> omega
/-- onesCount counts the set bits. -/
theorem oc_all (hy : y < 18446744073709551616) : ocI (y : Int) = ((cnt y.testBit 64 : Nat) : Int) ∧ cnt y.testBit 64 ≤ 64 := by
  obtain ⟨a1, a2, a3⟩ := s1_sub hy
  obtain ⟨b1, b2⟩ := s2_sum a2
  have b3 : ∀ j, j < 16 → nib ((y - ((y >>> 1) &&& 6148914691236517205) &&& 3689348814741910323) + ((y - ((y >>> 1) &&& 6148914691236517205)) >>> 2 &&& 3689348814741910323)) j = pc (nib y j) := fun j hj => by
    rw [b2 j hj, a3 j hj]
    exact (s3_nib (nib_lt y j)).1
  have b4 : ∀ j, j < 16 → nib ((y - ((y >>> 1) &&& 6148914691236517205) &&& 3689348814741910323) + ((y - ((y >>> 1) &&& 6148914691236517205)) >>> 2 &&& 3689348814741910323)) j ≤ 4 := fun j hj => by
    rw [b3 j hj]
    exact (s3_nib (nib_lt y j)).2
  have e1 : bits .and .u64 ((y : Int) / 2) 6148914691236517205 = (((y >>> 1) &&& 6148914691236517205 : Nat) : Int) := by
    have q1 : (y : Int) / (2 : Int) = ((y >>> 1 : Nat) : Int) := by rw [Nat.shiftRight_eq_div_pow]; omega
    rw [q1]
    exact u64_and_nat (b := 6148914691236517205) (Nat.lt_of_le_of_lt (Nat.shiftRight_le y 1) hy) (by decide)
  have e2 : IntKind.u64.wrap ((y : Int) - (((y >>> 1) &&& 6148914691236517205 : Nat) : Int)) = ((y - ((y >>> 1) &&& 6148914691236517205) : Nat) : Int) := by
    rw [IntKind.wrap_u64]
    omega
  generalize hs : y - ((y >>> 1) &&& 6148914691236517205) = s at *
  have e3 : bits .and .u64 (s : Int) 3689348814741910323 = ((s &&& 3689348814741910323 : Nat) : Int) := by
    rw [show (3689348814741910323 : Int) = ((3689348814741910323 : Nat) : Int) from rfl]
    exact u64_and_nat a2 (by decide)
  have e4 : bits .and .u64 ((s : Int) / 4) 3689348814741910323 = ((s >>> 2 &&& 3689348814741910323 : Nat) : Int) := by
    have q1 : (s : Int) / (4 : Int) = ((s >>> 2 : Nat) : Int) := by rw [Nat.shiftRight_eq_div_pow]; omega
    rw [q1]
    exact u64_and_nat (b := 3689348814741910323) (Nat.lt_of_le_of_lt (Nat.shiftRight_le s 2) a2) (by decide)
  have e5 : IntKind.u64.wrap (((s &&& 3689348814741910323 : Nat) : Int) + ((s >>> 2 &&& 3689348814741910323 : Nat) : Int)) = (((s &&& 3689348814741910323) + (s >>> 2 &&& 3689348814741910323) : Nat) : Int) := by
    rw [IntKind.wrap_u64]
    omega
  generalize ht : (s &&& 3689348814741910323) + (s >>> 2 &&& 3689348814741910323) = t at *
  obtain ⟨c1, _⟩ := oc4_sum b1 b4
  have e6 : IntKind.u64.wrap ((t : Int) + (t : Int) / 16) = ((t + t >>> 4 : Nat) : Int) := by
    rw [IntKind.wrap_u64]
    rw [Nat.shiftRight_eq_div_pow] at c1 ⊢
    omega
  have e7 : bits .and .u64 ((t + t >>> 4 : Nat) : Int) 1085102592571150095 = (((t + t >>> 4) &&& 1085102592571150095 : Nat) : Int) := by
    rw [show (1085102592571150095 : Int) = ((1085102592571150095 : Nat) : Int) from rfl]
    exact u64_and_nat c1 (by decide)
  have d := oc4_d b1 b4
  have hsum : sumN t = cnt y.testBit 64 := by
    rw [cnt64]
    unfold sumN
    rw [b3 0 (by omega), b3 1 (by omega), b3 2 (by omega), b3 3 (by omega), b3 4 (by omega), b3 5 (by omega), b3 6 (by omega), b3 7 (by omega), b3 8 (by omega), b3 9 (by omega), b3 10 (by omega), b3 11 (by omega), b3 12 (by omega), b3 13 (by omega), b3 14 (by omega), b3 15 (by omega)]
  have hle : cnt y.testBit 64 ≤ 64 := cnt_bnd _ _
  refine ⟨?_, hle⟩
  rw [← hsum] at hle ⊢
  rw [← d] at hle ⊢
  unfold ocI
  rw [e1, e2, e3, e4, e5, e6, e7]
  generalize (t + t >>> 4) &&& 1085102592571150095 = u at *
  have e8 : IntKind.u64.wrap ((u : Int) * 72340172838076673) = ((u * 72340172838076673 % 18446744073709551616 : Nat) : Int) := by
    rw [IntKind.wrap_u64]
    omega
  rw [e8]
  generalize u * 72340172838076673 % 18446744073709551616 = v at *
  rw [Nat.shiftRight_eq_div_pow] at hle ⊢
  simp only [Nat.reducePow] at hle ⊢
  rw [show (v : Int) / 72057594037927936 = ((v / 72057594037927936 : Nat) : Int) by omega]
  unfold wrap64
  omega
theorem onesCountC (y : Nat) (hy : y < 18446744073709551616) (w : World) : Calls Tryz.prog 252 #[.int .u64 (y : Int)] w fun e w' => e = .returned (.int .i64 ((cnt y.testBit 64 : Nat) : Int)) ∧ w' = w := by
  have := onesCountG y hy w
  rw [(oc_all hy).1] at this
  exact this
end
end Go.Proofs.Qxb6500887aGreat
