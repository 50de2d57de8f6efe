/- Words of sixteen four-bit entries, plainly. -/
import Derived.Test.Qxb6500887aGreatArTabNew
namespace Go.Proofs.Qxb6500887aGreat
open Go.RowKit
set_option linter.unusedSimpArgs false
set_option linter.unusedVariables false

def nib (x j : Nat) : Nat := (x >>> (4 * j)) % 16
theorem nib_lt (x j : Nat) : nib x j < 16 := Nat.mod_lt _ (by omega)
theorem nib_ent (x i : Nat) : ent x (i * 4) 15 = nib x i := by
  unfold ent nib
  rw [Nat.mul_comm]
  exact Nat.and_two_pow_sub_one_eq_mod (n := 4) _
theorem nib_and (x y j : Nat) : nib (x &&& y) j = nib x j &&& nib y j := by
  unfold nib
  rw [Nat.shiftRight_and_distrib]
  exact Nat.and_mod_two_pow (n := 4) ..
theorem nib_xor (x y j : Nat) : nib (x ^^^ y) j = nib x j ^^^ nib y j := by
  unfold nib
  rw [Nat.shiftRight_xor_distrib]
  exact Nat.xor_mod_two_pow (n := 4) ..
def ones4 : Nat := 1229782938247303441
def full4 : Nat := 18446744073709551615
def msk (a b : Nat) : Nat := 16 ^ b - 16 ^ a
theorem msk_tab : ((List.range 17).all fun a => (List.range 17).all fun b => (List.range 16).all fun j => nib (msk a b) j == if a ≤ j ∧ j < b then 15 else 0) = true := by kernel_rfl
theorem nib_msk {a b j : Nat} (ha : a ≤ 16) (hb : b ≤ 16) (hj : j < 16) : nib (msk a b) j = if a ≤ j ∧ j < b then 15 else 0 := by
  have h := msk_tab
  rw [List.all_eq_true] at h
  have h1 := List.all_eq_true.1 (h a (List.mem_range.2 (by omega))) b (List.mem_range.2 (by omega))
  exact eq_of_beq (List.all_eq_true.1 h1 j (List.mem_range.2 hj))
theorem one_tab : ((List.range 16).all fun j => nib ones4 j == 1 && nib full4 j == 15) = true := by kernel_rfl
theorem nib_one {j : Nat} (hj : j < 16) : nib ones4 j = 1 ∧ nib full4 j = 15 := by
  have h := List.all_eq_true.1 one_tab j (List.mem_range.2 hj)
  rw [Bool.and_eq_true] at h
  exact ⟨eq_of_beq h.1, eq_of_beq h.2⟩
theorem and15 {n : Nat} (h : n < 16) : n &&& 15 = n := by
  have := Nat.and_two_pow_sub_one_eq_mod (n := 4) n
  rw [show 2 ^ 4 - 1 = 15 from rfl] at this
  rw [this]
  exact Nat.mod_eq_of_lt h
/-- The four bits of a nibble in the lowest one. -/
def nz (y : Nat) : Nat := ((y ||| y >>> 1) ||| ((y ||| y >>> 1) >>> 2)) &&& ones4
theorem bits4 : ((List.range 16).all fun n => (n.testBit 0 || n.testBit 1 || n.testBit 2 || n.testBit 3) == !(n == 0)) = true := by kernel_rfl
theorem nib_nz (y : Nat) {j : Nat} (hj : j < 16) : nib (nz y) j = if nib y j = 0 then 0 else 1 := by
  unfold nz
  rw [nib_and, (nib_one hj).1]
  have e : nib ((y ||| y >>> 1) ||| ((y ||| y >>> 1) >>> 2)) j &&& 1 = (((y >>> (4 * j)).testBit 0 || (y >>> (4 * j)).testBit 1 || (y >>> (4 * j)).testBit 2 || (y >>> (4 * j)).testBit 3).toNat) := by
    have h1 : nib ((y ||| y >>> 1) ||| ((y ||| y >>> 1) >>> 2)) j &&& 1 = ((((y ||| y >>> 1) ||| ((y ||| y >>> 1) >>> 2)) >>> (4 * j)).testBit 0).toNat := by
      unfold nib
      rw [Nat.and_one_is_mod, Nat.testBit_zero, Nat.mod_mod_of_dvd _ (by decide)]
      rcases Nat.mod_two_eq_zero_or_one ((((y ||| y >>> 1) ||| ((y ||| y >>> 1) >>> 2)) >>> (4 * j))) with h | h <;> rw [h] <;> rfl
    rw [h1]
    congr 1
    simp only [Nat.testBit_shiftRight, Nat.testBit_or]
    rw [show 1 + (2 + (4 * j + 0)) = 4 * j + 3 by omega, show 1 + (4 * j + 0) = 4 * j + 1 by omega, show 2 + (4 * j + 0) = 4 * j + 2 by omega]
    simp only [Bool.or_assoc]
  rw [e]
  have hb : ∀ k, k < 4 → (y >>> (4 * j)).testBit k = (nib y j).testBit k := fun k hk => by
    unfold nib
    rw [show (16 : Nat) = 2 ^ 4 from rfl, Nat.testBit_mod_two_pow]
    simp [hk]
  rw [hb 0 (by omega), hb 1 (by omega), hb 2 (by omega), hb 3 (by omega)]
  have h4 := eq_of_beq (List.all_eq_true.1 bits4 (nib y j) (List.mem_range.2 (nib_lt y j)))
  rw [h4]
  by_cases h : nib y j = 0
  · rw [if_pos h, h]; rfl
  · rw [if_neg h]
    have : (nib y j == 0) = false := beq_eq_false_iff_ne.2 h
    rw [this]; rfl
theorem nz_lt (y : Nat) : nz y < 18446744073709551616 := Nat.lt_of_le_of_lt Nat.and_le_right (by decide)
/-- A word is made of its nibbles. -/
theorem dig {x : Nat} (h : x < 18446744073709551616) : x = nib x 0 + 16 * nib x 1 + 256 * nib x 2 + 4096 * nib x 3 + 65536 * nib x 4 + 1048576 * nib x 5 + 16777216 * nib x 6 + 268435456 * nib x 7 + 4294967296 * nib x 8 + 68719476736 * nib x 9 + 1099511627776 * nib x 10 + 17592186044416 * nib x 11 + 281474976710656 * nib x 12 + 4503599627370496 * nib x 13 + 72057594037927936 * nib x 14 + 1152921504606846976 * nib x 15 := by
  unfold nib
  simp only [Nat.shiftRight_eq_div_pow, Nat.reduceMul, Nat.reducePow]
  omega
theorem of_dig (d : Nat → Nat) (hd : ∀ j, d j < 16) {x : Nat} (hx : x = d 0 + 16 * d 1 + 256 * d 2 + 4096 * d 3 + 65536 * d 4 + 1048576 * d 5 + 16777216 * d 6 + 268435456 * d 7 + 4294967296 * d 8 + 68719476736 * d 9 + 1099511627776 * d 10 + 17592186044416 * d 11 + 281474976710656 * d 12 + 4503599627370496 * d 13 + 72057594037927936 * d 14 + 1152921504606846976 * d 15) : x < 18446744073709551616 ∧ ∀ j, j < 16 → nib x j = d j := by
  have h0 := hd 0
  have h1 := hd 1
  have h2 := hd 2
  have h3 := hd 3
  have h4 := hd 4
  have h5 := hd 5
  have h6 := hd 6
  have h7 := hd 7
  have h8 := hd 8
  have h9 := hd 9
  have h10 := hd 10
  have h11 := hd 11
  have h12 := hd 12
  have h13 := hd 13
  have h14 := hd 14
  have h15 := hd 15
  refine ⟨by omega, fun j hj => ?_⟩
  unfold nib
  rcases (by omega : j = 0 ∨ j = 1 ∨ j = 2 ∨ j = 3 ∨ j = 4 ∨ j = 5 ∨ j = 6 ∨ j = 7 ∨ j = 8 ∨ j = 9 ∨ j = 10 ∨ j = 11 ∨ j = 12 ∨ j = 13 ∨ j = 14 ∨ j = 15) with rfl | rfl | rfl | rfl | rfl | rfl | rfl | rfl | rfl | rfl | rfl | rfl | rfl | rfl | rfl | rfl
  all_goals
    simp only [Nat.shiftRight_eq_div_pow, Nat.reduceMul, Nat.reducePow]
    omega
/-- Counting. -/
def cnt (P : Nat → Bool) : Nat → Nat
  | 0 => 0
  | h + 1 => cnt P h + (P h).toNat
theorem cnt16 (P : Nat → Bool) (h : Nat) : cnt P (h + 16) = cnt P h + ((P h).toNat + (P (h + 1)).toNat + (P (h + 2)).toNat + (P (h + 3)).toNat + (P (h + 4)).toNat + (P (h + 5)).toNat + (P (h + 6)).toNat + (P (h + 7)).toNat + (P (h + 8)).toNat + (P (h + 9)).toNat + (P (h + 10)).toNat + (P (h + 11)).toNat + (P (h + 12)).toNat + (P (h + 13)).toNat + (P (h + 14)).toNat + (P (h + 15)).toNat) := by
  simp only [cnt]
  omega
theorem cnt_zero {P : Nat → Bool} : ∀ {h : Nat}, (∀ i, i < h → P i = false) → cnt P h = 0
  | 0, _ => rfl
  | h + 1, hp => by
    simp only [cnt]
    rw [cnt_zero (fun i hi => hp i (by omega)), hp h (by omega)]
    rfl
theorem cnt_le {P Q : Nat → Bool} : ∀ {h : Nat}, (∀ i, i < h → P i = true → Q i = true) → cnt P h ≤ cnt Q h
  | 0, _ => Nat.le_refl _
  | h + 1, hp => by
    simp only [cnt]
    have h1 := cnt_le (P := P) (Q := Q) (h := h) (fun i hi => hp i (by omega))
    have h2 := hp h (by omega)
    cases hq : P h
    · simp; omega
    · rw [h2 hq]; simp; omega
theorem cnt_lt {P Q : Nat → Bool} : ∀ {h : Nat}, (∀ i, i < h → P i = true → Q i = true) → (∃ i, i < h ∧ Q i = true ∧ P i = false) → cnt P h < cnt Q h
  | 0, _, ⟨i, hi, _⟩ => by omega
  | h + 1, hp, ⟨i, hi, hq, hn⟩ => by
    simp only [cnt]
    have h2 := hp h (by omega)
    by_cases e : i = h
    · subst e
      have h1 := cnt_le (P := P) (Q := Q) (h := i) (fun k hk => hp k (by omega))
      rw [hq, hn]
      simp
      omega
    · have h1 := cnt_lt (P := P) (Q := Q) (h := h) (fun k hk => hp k (by omega)) ⟨i, by omega, hq, hn⟩
      cases hx : P h
      · simp; omega
      · rw [h2 hx]; simp; omega
theorem cnt_eq {P Q : Nat → Bool} : ∀ {h : Nat}, (∀ i, i < h → P i = Q i) → cnt P h = cnt Q h
  | 0, _ => rfl
  | h + 1, hp => by
    simp only [cnt]
    rw [cnt_eq (fun i hi => hp i (by omega)), hp h (by omega)]
theorem cnt_range (lo hi : Nat) : ∀ (h : Nat), cnt (fun i => decide (lo ≤ i) && decide (i < hi)) h = (min h hi) - lo
  | 0 => by simp [cnt]
  | h + 1 => by
    simp only [cnt]
    rw [cnt_range lo hi h]
    by_cases h1 : lo ≤ h
    · by_cases h2 : h < hi
      · simp only [h1, h2, decide_true, Bool.and_self, Bool.toNat_true]; omega
      · simp only [h1, h2, decide_true, decide_false, Bool.and_false, Bool.toNat_false]; omega
    · simp only [h1, decide_false, Bool.false_and, Bool.toNat_false]; omega
end Go.Proofs.Qxb6500887aGreat
