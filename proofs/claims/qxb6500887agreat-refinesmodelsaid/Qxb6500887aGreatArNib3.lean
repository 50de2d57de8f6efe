/- A table of 2048 four-bit entries; ranges of it, plainly. -/
import Derived.Test.Qxb6500887aGreatArNib2
namespace Go.Proofs.Qxb6500887aGreat
open Go.RowKit
set_option linter.unusedSimpArgs false
set_option linter.unusedVariables false

theorem mskand_tab : ((List.range 17).all fun a => (List.range 17).all fun b => (msk a 16 &&& msk 0 b == msk a b) && (full4 &&& msk a b == msk a b) && decide (msk a b < 18446744073709551616)) = true := by kernel_rfl
theorem msk_and {a b : Nat} (ha : a ≤ 16) (hb : b ≤ 16) : msk a 16 &&& msk 0 b = msk a b ∧ full4 &&& msk a b = msk a b ∧ msk a b < 18446744073709551616 := by
  have h := mskand_tab
  rw [List.all_eq_true] at h
  have h1 := List.all_eq_true.1 (h a (List.mem_range.2 (by omega))) b (List.mem_range.2 (by omega))
  rw [Bool.and_eq_true, Bool.and_eq_true] at h1
  exact ⟨eq_of_beq h1.1.1, eq_of_beq h1.1.2, of_decide_eq_true h1.2⟩
def aW (lo w : Nat) : Nat := if w = lo / 16 then lo % 16 else 0
def bW (hi w : Nat) : Nat := if w = (hi - 1) / 16 then (hi - 1) % 16 + 1 else 16
def mW (lo hi w : Nat) : Nat := msk (aW lo w) (bW hi w)
theorem aW_le (lo w : Nat) : aW lo w ≤ 16 := by unfold aW; split <;> omega
theorem bW_le (hi w : Nat) : bW hi w ≤ 16 := by unfold bW; split <;> omega
theorem mW_lt (lo hi w : Nat) : mW lo hi w < 18446744073709551616 := (msk_and (aW_le lo w) (bW_le hi w)).2.2
theorem nib_mW {lo hi w j : Nat} (h : lo < hi) (h1 : lo / 16 ≤ w) (h2 : w ≤ (hi - 1) / 16) (hj : j < 16) : nib (mW lo hi w) j = if lo ≤ 16 * w + j ∧ 16 * w + j < hi then 15 else 0 := by
  unfold mW
  rw [nib_msk (aW_le lo w) (bW_le hi w) hj]
  have e : (aW lo w ≤ j ∧ j < bW hi w) ↔ (lo ≤ 16 * w + j ∧ 16 * w + j < hi) := by
    unfold aW bW
    split <;> split <;> omega
  by_cases q : lo ≤ 16 * w + j ∧ 16 * w + j < hi
  · rw [if_pos q, if_pos (e.2 q)]
  · rw [if_neg q, if_neg (fun x => q (e.1 x))]
def inR (lo hi i : Nat) : Bool := decide (lo ≤ i) && decide (i < hi)
theorem inR_iff {lo hi i : Nat} : inR lo hi i = true ↔ lo ≤ i ∧ i < hi := by unfold inR; simp
theorem nib_mW' {lo hi w j : Nat} (h : lo < hi) (h1 : lo / 16 ≤ w) (h2 : w ≤ (hi - 1) / 16) (hj : j < 16) : nib (mW lo hi w) j = if inR lo hi (16 * w + j) = true then 15 else 0 := by
  rw [nib_mW h h1 h2 hj]
  by_cases q : lo ≤ 16 * w + j ∧ 16 * w + j < hi
  · rw [if_pos q, if_pos (inR_iff.2 q)]
  · rw [if_neg q, if_neg (fun x => q (inR_iff.1 x))]
/-- One word's share of a count. -/
theorem cnt_word {P : Nat → Bool} {w z : Nat} (h : ∀ j, j < 16 → (nib z j = 0 ↔ P (16 * w + j) = false)) : cnt P (16 * (w + 1)) = cnt P (16 * w) + sumN (nz z) ∧ (∀ j, j < 16 → nib (nz z) j ≤ 1) ∧ sumN (nz z) ≤ 16 := by
  have hn : ∀ j, j < 16 → nib (nz z) j = (P (16 * w + j)).toNat := fun j hj => by
    rw [nib_nz z hj]
    by_cases q : nib z j = 0
    · rw [if_pos q, (h j hj).1 q]; rfl
    · rw [if_neg q]
      cases hp : P (16 * w + j)
      · exact absurd ((h j hj).2 hp) q
      · rfl
  have hl : ∀ j, j < 16 → nib (nz z) j ≤ 1 := fun j hj => by
    rw [nib_nz z hj]
    split <;> omega
  refine ⟨?_, hl, ?_⟩
  · rw [show 16 * (w + 1) = 16 * w + 16 by omega, cnt16]
    unfold sumN
    rw [hn 0 (by omega), hn 1 (by omega), hn 2 (by omega), hn 3 (by omega), hn 4 (by omega), hn 5 (by omega), hn 6 (by omega), hn 7 (by omega), hn 8 (by omega), hn 9 (by omega), hn 10 (by omega), hn 11 (by omega), hn 12 (by omega), hn 13 (by omega), hn 14 (by omega), hn 15 (by omega)]
    rfl
  · unfold sumN
    have l0 := hl 0 (by omega)
    have l1 := hl 1 (by omega)
    have l2 := hl 2 (by omega)
    have l3 := hl 3 (by omega)
    have l4 := hl 4 (by omega)
    have l5 := hl 5 (by omega)
    have l6 := hl 6 (by omega)
    have l7 := hl 7 (by omega)
    have l8 := hl 8 (by omega)
    have l9 := hl 9 (by omega)
    have l10 := hl 10 (by omega)
    have l11 := hl 11 (by omega)
    have l12 := hl 12 (by omega)
    have l13 := hl 13 (by omega)
    have l14 := hl 14 (by omega)
    have l15 := hl 15 (by omega)
    omega
theorem xor15 : ((List.range 16).all fun n => (n ^^^ 15 == 0) == (n == 15)) = true := by kernel_rfl
theorem word_eq {lo hi w x : Nat} {f : Nat → Nat} (h : lo < hi) (h1 : lo / 16 ≤ w) (h2 : w ≤ (hi - 1) / 16) (hf : ∀ j, j < 16 → nib x j = f (16 * w + j)) : ∀ j, j < 16 → (nib ((x ^^^ full4) &&& mW lo hi w) j = 0 ↔ (inR lo hi (16 * w + j) && !(f (16 * w + j) == 15)) = false) := fun j hj => by
  rw [nib_and, nib_xor, (nib_one hj).2, nib_mW' h h1 h2 hj, hf j hj]
  have hl : f (16 * w + j) < 16 := by rw [← hf j hj]; exact nib_lt _ _
  have h4 := eq_of_beq (List.all_eq_true.1 xor15 (f (16 * w + j)) (List.mem_range.2 hl))
  cases hr : inR lo hi (16 * w + j)
  · simp
  · rw [if_pos rfl, and15 (Nat.xor_lt_two_pow (n := 4) hl (by decide))]
    rw [Bool.true_and]
    constructor
    · intro q
      rw [q] at h4
      simp at h4
      simp [h4]
    · intro q
      have : (f (16 * w + j) == 15) = true := by simpa using q
      rw [this] at h4
      exact eq_of_beq h4
theorem word_nz {lo hi w x : Nat} {f : Nat → Nat} (h : lo < hi) (h1 : lo / 16 ≤ w) (h2 : w ≤ (hi - 1) / 16) (hf : ∀ j, j < 16 → nib x j = f (16 * w + j)) : ∀ j, j < 16 → (nib (x &&& mW lo hi w) j = 0 ↔ (inR lo hi (16 * w + j) && !(f (16 * w + j) == 0)) = false) := fun j hj => by
  rw [nib_and, nib_mW' h h1 h2 hj, hf j hj]
  have hl : f (16 * w + j) < 16 := by rw [← hf j hj]; exact nib_lt _ _
  cases hr : inR lo hi (16 * w + j)
  · simp
  · rw [if_pos rfl, and15 hl]
    simp
theorem one_mW {lo hi w j : Nat} (h : lo < hi) (h1 : lo / 16 ≤ w) (h2 : w ≤ (hi - 1) / 16) (hj : j < 16) : nib (ones4 &&& mW lo hi w) j = (inR lo hi (16 * w + j)).toNat := by
  rw [nib_and, (nib_one hj).1, nib_mW' h h1 h2 hj]
  cases inR lo hi (16 * w + j) <;> rfl
theorem and_lt_r (x : Nat) {y : Nat} (hy : y < 18446744073709551616) : x &&& y < 18446744073709551616 := Nat.lt_of_le_of_lt Nat.and_le_right hy
theorem word_inc {lo hi w x : Nat} {f : Nat → Nat} (h : lo < hi) (h1 : lo / 16 ≤ w) (h2 : w ≤ (hi - 1) / 16) (hx : x < 18446744073709551616) (hf : ∀ j, j < 16 → nib x j = f (16 * w + j)) (hm : ∀ i, lo ≤ i → i < hi → f i ≤ 14) :
    x + (ones4 &&& mW lo hi w) < 18446744073709551616 ∧ ∀ j, j < 16 → nib (x + (ones4 &&& mW lo hi w)) j = f (16 * w + j) + (inR lo hi (16 * w + j)).toNat := by
  have hb : ∀ j, j < 16 → nib x j + nib (ones4 &&& mW lo hi w) j < 16 := fun j hj => by
    rw [one_mW h h1 h2 hj]
    cases hr : inR lo hi (16 * w + j)
    · exact nib_lt _ _
    · have := inR_iff.1 hr
      have := hm (16 * w + j) this.1 this.2
      rw [hf j hj]
      show _ + 1 < 16
      omega
  obtain ⟨g1, g2⟩ := of_dig (x := x + (ones4 &&& mW lo hi w)) (fun j => if j < 16 then nib x j + nib (ones4 &&& mW lo hi w) j else 0) (fun j => by
    by_cases hj : j < 16
    · simp only [hj, if_true]; exact hb j hj
    · simp only [hj, if_false]; omega) (by
    have d1 := dig hx
    have d2 := dig (and_lt_r ones4 (mW_lt lo hi w))
    generalize (ones4 &&& mW lo hi w) = z at *
    simp only [Nat.reduceLT, if_true]
    omega)
  refine ⟨g1, fun j hj => ?_⟩
  rw [g2 j hj]
  simp only [hj, if_true]
  rw [one_mW h h1 h2 hj, hf j hj]
theorem split16 {x z : Nat} (n d : Nat → Nat) (d1 : x = (n 0 + d 0) + 16 * (n 1 + d 1) + 256 * (n 2 + d 2) + 4096 * (n 3 + d 3) + 65536 * (n 4 + d 4) + 1048576 * (n 5 + d 5) + 16777216 * (n 6 + d 6) + 268435456 * (n 7 + d 7) + 4294967296 * (n 8 + d 8) + 68719476736 * (n 9 + d 9) + 1099511627776 * (n 10 + d 10) + 17592186044416 * (n 11 + d 11) + 281474976710656 * (n 12 + d 12) + 4503599627370496 * (n 13 + d 13) + 72057594037927936 * (n 14 + d 14) + 1152921504606846976 * (n 15 + d 15)) (d2 : z = n 0 + 16 * n 1 + 256 * n 2 + 4096 * n 3 + 65536 * n 4 + 1048576 * n 5 + 16777216 * n 6 + 268435456 * n 7 + 4294967296 * n 8 + 68719476736 * n 9 + 1099511627776 * n 10 + 17592186044416 * n 11 + 281474976710656 * n 12 + 4503599627370496 * n 13 + 72057594037927936 * n 14 + 1152921504606846976 * n 15) : x = z + (d 0 + 16 * d 1 + 256 * d 2 + 4096 * d 3 + 65536 * d 4 + 1048576 * d 5 + 16777216 * d 6 + 268435456 * d 7 + 4294967296 * d 8 + 68719476736 * d 9 + 1099511627776 * d 10 + 17592186044416 * d 11 + 281474976710656 * d 12 + 4503599627370496 * d 13 + 72057594037927936 * d 14 + 1152921504606846976 * d 15) := by
  subst d1 d2
  simp only [Nat.mul_add]
  omega
theorem word_dec {lo hi w x : Nat} {f : Nat → Nat} (h : lo < hi) (h1 : lo / 16 ≤ w) (h2 : w ≤ (hi - 1) / 16) (hx : x < 18446744073709551616) (hf : ∀ j, j < 16 → nib x j = f (16 * w + j)) (hm : ∀ i, lo ≤ i → i < hi → 1 ≤ f i) :
    (ones4 &&& mW lo hi w) ≤ x ∧ ∀ j, j < 16 → nib (x - (ones4 &&& mW lo hi w)) j = f (16 * w + j) - (inR lo hi (16 * w + j)).toNat := by
  have hb : ∀ j, j < 16 → nib (ones4 &&& mW lo hi w) j ≤ nib x j := fun j hj => by
    rw [one_mW h h1 h2 hj]
    cases hr : inR lo hi (16 * w + j)
    · exact Nat.zero_le _
    · have := inR_iff.1 hr
      have := hm (16 * w + j) this.1 this.2
      rw [hf j hj]
      exact this
  obtain ⟨d, hd⟩ : ∃ d : Nat → Nat, ∀ j, d j = nib x j - nib (ones4 &&& mW lo hi w) j := ⟨fun j => nib x j - nib (ones4 &&& mW lo hi w) j, fun j => rfl⟩
  have he : ∀ j, j < 16 → nib x j = nib (ones4 &&& mW lo hi w) j + d j := fun j hj => by rw [hd j, Nat.add_sub_cancel' (hb j hj)]
  have hd16 : ∀ j, d j < 16 := fun j => by rw [hd j]; exact Nat.lt_of_le_of_lt (Nat.sub_le _ _) (nib_lt x j)
  have d1 := dig hx
  have d2 := dig (and_lt_r ones4 (mW_lt lo hi w))
  rw [he 0 (by decide), he 1 (by decide), he 2 (by decide), he 3 (by decide), he 4 (by decide), he 5 (by decide), he 6 (by decide), he 7 (by decide), he 8 (by decide), he 9 (by decide), he 10 (by decide), he 11 (by decide), he 12 (by decide), he 13 (by decide), he 14 (by decide), he 15 (by decide)] at d1
  have hs := split16 (nib (ones4 &&& mW lo hi w)) d d1 d2
  have hz : (ones4 &&& mW lo hi w) ≤ x := by rw [hs]; exact Nat.le_add_right _ _
  obtain ⟨g1, g2⟩ := of_dig (x := x - (ones4 &&& mW lo hi w)) d hd16 (by
    conv => lhs; rw [hs]
    exact Nat.add_sub_cancel_left _ _)
  refine ⟨hz, fun j hj => ?_⟩
  rw [g2 j hj, hd j]
  rw [one_mW h h1 h2 hj, hf j hj]
end Go.Proofs.Qxb6500887aGreat
