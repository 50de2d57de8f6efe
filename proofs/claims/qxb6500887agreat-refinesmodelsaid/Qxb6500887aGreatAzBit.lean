/- Words of 64 bits, entries of 1, 2 or 4 bits: plain laws, no Go. -/
import Derived.Test.Qxb6500887aGreatArTabNew
namespace Go.Proofs.Qxb6500887aGreat
open Go.RowKit
set_option linter.unusedSimpArgs false
set_option linter.unusedVariables false

/-- The shapes of tables: width, entries to a word. -/
def Wd (wd per : Nat) : Prop := (wd = 1 ∧ per = 64) ∨ (wd = 2 ∧ per = 32) ∨ (wd = 4 ∧ per = 16)
theorem Wd.three {wd per : Nat} (h : Wd wd per) : wd = 1 ∨ wd = 2 ∨ wd = 4 := by rcases h with ⟨h, _⟩ | ⟨h, _⟩ | ⟨h, _⟩ <;> simp [h]
theorem Wd.mul {wd per : Nat} (h : Wd wd per) : per * wd = 64 ∧ 1 ≤ per ∧ per ≤ 64 ∧ 1 ≤ wd ∧ wd ≤ 4 := by rcases h with ⟨rfl, rfl⟩ | ⟨rfl, rfl⟩ | ⟨rfl, rfl⟩ <;> omega
abbrev F64 : Nat := 18446744073709551615
/-- The bits from a to below b. -/
def bM (a b : Nat) : Nat := 2 ^ b - 2 ^ a
theorem mk_shift {a b : Nat} (h : a ≤ b) : bM a b = (2 ^ (b - a) - 1) <<< a := by
  unfold bM
  rw [Nat.shiftLeft_eq, Nat.sub_mul, ← Nat.pow_add, show b - a + a = b by omega, Nat.one_mul]
theorem testBit_mk {a b : Nat} (h : a ≤ b) (i : Nat) : (bM a b).testBit i = (decide (a ≤ i) && decide (i < b)) := by
  rw [mk_shift h, Nat.testBit_shiftLeft, testBit_mask]
  by_cases h1 : a ≤ i
  · simp [h1, show (i - a < b - a) ↔ i < b by omega]
  · simp [h1]
theorem mk_lt {a b : Nat} (h : b ≤ 64) : bM a b < 18446744073709551616 := by
  have h1 : (2 : Nat) ^ b ≤ 2 ^ 64 := Nat.pow_le_pow_right (by decide) h
  have h2 : 0 < (2 : Nat) ^ a := Nat.pow_pos (by decide)
  have h3 : 0 < (2 : Nat) ^ b := Nat.pow_pos (by decide)
  have h4 : (2 : Nat) ^ 64 = 18446744073709551616 := rfl
  unfold bM; omega
theorem testBit_F64 (i : Nat) : F64.testBit i = decide (i < 64) := testBit_mask 64 i
/-- A range's bits in word q, as maskAt tells them. -/
def mAt (fw lw fm lm q : Nat) : Nat := (if q = fw then fm else F64) &&& (if q = lw then lm else F64)
def mskW (wd per lo hi q : Nat) : Nat := mAt (lo / per) ((hi - 1) / per) (bM (lo % per * wd) 64) (bM 0 ((hi - 1) % per * wd + wd)) q
theorem mAt_lt {fw lw fm lm q : Nat} (h : fm < 18446744073709551616) : mAt fw lw fm lm q < 18446744073709551616 := by
  unfold mAt
  refine Nat.lt_of_le_of_lt Nat.and_le_left ?_
  split
  · exact h
  · decide
theorem testBit_mskW {wd per lo hi q i : Nat} (hw : Wd wd per) (hlt : lo < hi) (h1 : lo / per ≤ q) (h2 : q ≤ (hi - 1) / per) (hi64 : i < 64) : (mskW wd per lo hi q).testBit i = (decide (lo ≤ per * q + i / wd) && decide (per * q + i / wd < hi)) := by
  unfold mskW mAt
  rw [Nat.testBit_and]
  have hA : (if q = lo / per then bM (lo % per * wd) 64 else F64).testBit i = decide (lo ≤ per * q + i / wd) := by
    have ha : lo % per * wd ≤ 64 := by rcases hw with ⟨rfl, rfl⟩ | ⟨rfl, rfl⟩ | ⟨rfl, rfl⟩ <;> omega
    by_cases e : q = lo / per
    · rw [if_pos e, testBit_mk ha]
      have : (lo % per * wd ≤ i) ↔ lo ≤ per * q + i / wd := by rcases hw with ⟨rfl, rfl⟩ | ⟨rfl, rfl⟩ | ⟨rfl, rfl⟩ <;> omega
      simp [this, hi64]
    · rw [if_neg e, testBit_F64]
      have : lo ≤ per * q + i / wd := by rcases hw with ⟨rfl, rfl⟩ | ⟨rfl, rfl⟩ | ⟨rfl, rfl⟩ <;> omega
      simp [this, hi64]
  have hB : (if q = (hi - 1) / per then bM 0 ((hi - 1) % per * wd + wd) else F64).testBit i = decide (per * q + i / wd < hi) := by
    by_cases e : q = (hi - 1) / per
    · rw [if_pos e, testBit_mk (Nat.zero_le _)]
      have : (i < (hi - 1) % per * wd + wd) ↔ per * q + i / wd < hi := by rcases hw with ⟨rfl, rfl⟩ | ⟨rfl, rfl⟩ | ⟨rfl, rfl⟩ <;> omega
      simp [this]
    · rw [if_neg e, testBit_F64]
      have : per * q + i / wd < hi := by rcases hw with ⟨rfl, rfl⟩ | ⟨rfl, rfl⟩ | ⟨rfl, rfl⟩ <;> omega
      simp [this, hi64]
  rw [hA, hB]
/-- The lowest bit of every entry. -/
def onW (wd : Nat) : Nat := if wd = 1 then 18446744073709551615 else if wd = 2 then 6148914691236517205 else 1229782938247303441
theorem onW_tab : ((List.range 64).all fun i => ((onW 1).testBit i == true) && ((onW 2).testBit i == decide (i % 2 = 0)) && ((onW 4).testBit i == decide (i % 4 = 0))) = true := by kernel_rfl
theorem onW_lt (wd : Nat) : onW wd < 18446744073709551616 := by
  unfold onW
  split
  · decide
  · split <;> decide
theorem testBit_onW {wd per i : Nat} (hw : Wd wd per) (hi : i < 64) : (onW wd).testBit i = decide (i % wd = 0) := by
  have h := List.all_eq_true.1 onW_tab i (List.mem_range.2 hi)
  rw [Bool.and_eq_true, Bool.and_eq_true] at h
  rcases hw with ⟨rfl, rfl⟩ | ⟨rfl, rfl⟩ | ⟨rfl, rfl⟩
  · rw [eq_of_beq h.1.1]; simp [Nat.mod_one]
  · exact eq_of_beq h.1.2
  · exact eq_of_beq h.2
theorem testBit_high {x i : Nat} (hx : x < 18446744073709551616) (hi : 64 ≤ i) : x.testBit i = false := Nat.testBit_lt_two_pow (Nat.lt_of_lt_of_le (show x < 2 ^ 64 from hx) (Nat.pow_le_pow_right (by decide) hi))
/-- Go's nonzero. -/
def nzW (wd x : Nat) : Nat := (if wd = 1 then x else if wd = 2 then x ||| x >>> 1 else (x ||| x >>> 1) ||| ((x ||| x >>> 1) >>> 2)) &&& onW wd
theorem nzW_lt (wd x : Nat) : nzW wd x < 18446744073709551616 := Nat.lt_of_le_of_lt Nat.and_le_right (onW_lt wd)
/-- Entry j of a word. -/
def enW (wd x j : Nat) : Nat := ent x (j * wd) (2 ^ wd - 1)
theorem testBit_enW (wd x j i : Nat) : (enW wd x j).testBit i = (x.testBit (j * wd + i) && decide (i < wd)) := by
  unfold enW ent
  rw [Nat.testBit_and, Nat.testBit_shiftRight, testBit_mask]
theorem enW_lt (wd x j : Nat) : enW wd x j < 2 ^ wd := by
  unfold enW ent
  have h := Nat.and_le_right (n := x >>> (j * wd)) (m := 2 ^ wd - 1)
  have : 0 < 2 ^ wd := Nat.pow_pos (by decide)
  omega
theorem enW_ne {wd per x j : Nat} (hw : Wd wd per) : enW wd x j ≠ 0 ↔ ∃ i, i < wd ∧ x.testBit (j * wd + i) = true := by
  constructor
  · intro h
    apply Classical.byContradiction
    intro hn
    apply h
    apply Nat.eq_of_testBit_eq
    intro i
    rw [testBit_enW, Nat.zero_testBit]
    by_cases hi : i < wd
    · cases hb : x.testBit (j * wd + i)
      · rfl
      · exact absurd ⟨i, hi, hb⟩ hn
    · simp [hi]
  · rintro ⟨i, hi, hb⟩ h0
    have := testBit_enW wd x j i
    rw [h0, Nat.zero_testBit, hb] at this
    simp [hi] at this
theorem testBit_nzW {wd per x i : Nat} (hw : Wd wd per) (hi : i < 64) : (nzW wd x).testBit i = (decide (i % wd = 0) && !(enW wd x (i / wd) == 0)) := by
  unfold nzW
  rw [Nat.testBit_and, testBit_onW hw hi]
  by_cases hm : i % wd = 0
  rotate_left
  · simp [hm]
  have key := enW_ne (x := x) (j := i / wd) hw
  have hd : i / wd * wd = i := by
    have := Nat.div_add_mod i wd
    rw [hm, Nat.add_zero, Nat.mul_comm] at this
    exact this
  rw [hd] at key
  simp only [hm, decide_true, Bool.and_true, Bool.true_and]
  have e2 : (!(enW wd x (i / wd) == 0)) = decide (∃ k, k < wd ∧ x.testBit (i + k) = true) := by
    by_cases hz : enW wd x (i / wd) = 0
    · have : ¬ ∃ k, k < wd ∧ x.testBit (i + k) = true := fun h => key.2 h hz
      simp only [hz, beq_self_eq_true, Bool.not_true, this, decide_false]
    · have := key.1 hz
      have hz' : (enW wd x (i / wd) == 0) = false := by simpa using hz
      rw [hz', decide_eq_true this]
      rfl
  rw [e2]
  rcases hw with ⟨rfl, rfl⟩ | ⟨rfl, rfl⟩ | ⟨rfl, rfl⟩
  · have : (∃ k, k < 1 ∧ x.testBit (i + k) = true) ↔ x.testBit i = true := by
      constructor
      · rintro ⟨k, hk, h⟩
        obtain rfl : k = 0 := by omega
        exact h
      · intro h
        exact ⟨0, by omega, h⟩
    simp [this]
  · have : (∃ k, k < 2 ∧ x.testBit (i + k) = true) ↔ (x.testBit i = true ∨ x.testBit (1 + i) = true) := by
      constructor
      · rintro ⟨k, hk, h⟩
        rcases (by omega : k = 0 ∨ k = 1) with rfl | rfl
        · exact .inl h
        · rw [Nat.add_comm] at h; exact .inr h
      · intro h
        rcases h with h | h
        · exact ⟨0, by omega, h⟩
        · exact ⟨1, by omega, by rw [Nat.add_comm]; exact h⟩
    simp [this, Nat.testBit_or, Nat.testBit_shiftRight]
  · have : (∃ k, k < 4 ∧ x.testBit (i + k) = true) ↔ ((x.testBit i = true ∨ x.testBit (1 + i) = true) ∨ (x.testBit (2 + i) = true ∨ x.testBit (1 + (2 + i)) = true)) := by
      constructor
      · rintro ⟨k, hk, h⟩
        rcases (by omega : k = 0 ∨ k = 1 ∨ k = 2 ∨ k = 3) with rfl | rfl | rfl | rfl
        · exact .inl (.inl h)
        · rw [Nat.add_comm] at h; exact .inl (.inr h)
        · rw [Nat.add_comm] at h; exact .inr (.inl h)
        · rw [show i + 3 = 1 + (2 + i) by omega] at h; exact .inr (.inr h)
      · intro h
        rcases h with (h | h) | (h | h)
        · exact ⟨0, by omega, h⟩
        · exact ⟨1, by omega, by rw [Nat.add_comm]; exact h⟩
        · exact ⟨2, by omega, by rw [Nat.add_comm]; exact h⟩
        · exact ⟨3, by omega, by rw [show i + 3 = 1 + (2 + i) by omega]; exact h⟩
    simp [this, Nat.testBit_or, Nat.testBit_shiftRight]
/-- k is the lowest set bit of y. -/
def Low (y k : Nat) : Prop := y.testBit k = true ∧ ∀ j, j < k → y.testBit j = false
theorem exists_low {y : Nat} (hy : y ≠ 0) (hl : y < 18446744073709551616) : ∃ k, k < 64 ∧ Low y k := by
  have h1 : ∃ i, y.testBit i = true := Nat.exists_testBit_of_ne_zero hy
  have : ∃ k, Low y k := by
    obtain ⟨i, hi⟩ := h1
    induction i using Nat.strongRecOn with
    | ind i ih =>
      by_cases h : ∃ j, j < i ∧ y.testBit j = true
      · obtain ⟨j, hj, hb⟩ := h
        exact ih j hj hb
      · exact ⟨i, hi, fun j hj => by
          cases hb : y.testBit j
          · rfl
          · exact absurd ⟨j, hj, hb⟩ h⟩
  obtain ⟨k, hk⟩ := this
  refine ⟨k, ?_, hk⟩
  rcases Nat.lt_or_ge k 64 with h | h
  · exact h
  · have := testBit_high hl h
    rw [hk.1] at this
    cases this
theorem low_and {y k : Nat} (hl : y < 18446744073709551616) (hk : k < 64) (h : Low y k) : y &&& (18446744073709551616 - y) = 2 ^ k := by
  have hm0 : y % 2 ^ k = 0 := by
    apply Nat.eq_of_testBit_eq
    intro i
    rw [Nat.testBit_mod_two_pow, Nat.zero_testBit]
    by_cases hi : i < k
    · simp [h.2 i hi]
    · simp [hi]
  obtain ⟨z, hz⟩ : ∃ z, y = 2 ^ k * z := ⟨y / 2 ^ k, by have := Nat.div_add_mod y (2 ^ k); omega⟩
  have hzb : ∀ i, z.testBit i = y.testBit (i + k) := fun i => by
    rw [hz, Nat.testBit_two_pow_mul]
    simp
  have hz1 : z % 2 = 1 := by
    have := hzb 0
    rw [Nat.zero_add, h.1, Nat.testBit_zero] at this
    simpa using this
  obtain ⟨m, hm⟩ : ∃ m, z = 2 * m + 1 := ⟨z / 2, by omega⟩
  have hpow : (18446744073709551616 : Nat) = 2 ^ k * 2 ^ (64 - k) := by rw [← Nat.pow_add, show k + (64 - k) = 64 by omega]
  have hpos : 0 < 2 ^ k := Nat.pow_pos (by decide)
  have hzl : z < 2 ^ (64 - k) := by
    rw [hz, hpow] at hl
    exact Nat.lt_of_mul_lt_mul_left hl
  have h2 : 2 ^ (64 - k) = 2 * 2 ^ (63 - k) := by rw [← Nat.pow_succ']; congr 1; omega
  have hml : m < 2 ^ (63 - k) := by omega
  have hc : 18446744073709551616 - y = 2 ^ k * (2 * (2 ^ (63 - k) - (m + 1)) + 1) := by
    rw [hz, hpow, ← Nat.mul_sub]
    congr 1
    omega
  rw [hc, hz, hm]
  apply Nat.eq_of_testBit_eq
  intro i
  rw [Nat.testBit_and, Nat.testBit_two_pow_mul, Nat.testBit_two_pow_mul, Nat.testBit_two_pow]
  by_cases hi : k ≤ i
  · obtain ⟨d, rfl⟩ : ∃ d, i = k + d := ⟨i - k, by omega⟩
    rw [show k + d - k = d by omega]
    cases d with
    | zero => simp
    | succ d =>
      have e1 : (2 * m + 1).testBit (d + 1) = m.testBit d := by rw [Nat.testBit_succ]; congr 1; omega
      have e2 : (2 * (2 ^ (63 - k) - (m + 1)) + 1).testBit (d + 1) = (2 ^ (63 - k) - (m + 1)).testBit d := by rw [Nat.testBit_succ]; congr 1; omega
      rw [e1, e2, Nat.testBit_two_pow_sub_succ hml]
      have : ¬ (k = k + (d + 1)) := by omega
      simp [this]
      cases m.testBit d <;> simp
  · have : ¬ (k = i) := by omega
    simp [hi, this]
/-- The flags of the entries that are not zero, and the first of them. -/
theorem low_div {wd per y k : Nat} (hw : Wd wd per) (hk : k < 64) (h : Low y k) (hd : ∀ i, i < 64 → y.testBit i = true → i % wd = 0) : k % wd = 0 ∧ k / wd < per ∧ ∀ j, j < k / wd → y.testBit (j * wd) = false := by
  refine ⟨hd k hk h.1, ?_, fun j hj => h.2 _ ?_⟩
  · rcases hw with ⟨rfl, rfl⟩ | ⟨rfl, rfl⟩ | ⟨rfl, rfl⟩ <;> omega
  · rcases hw with ⟨rfl, rfl⟩ | ⟨rfl, rfl⟩ | ⟨rfl, rfl⟩ <;> omega
end Go.Proofs.Qxb6500887aGreat
