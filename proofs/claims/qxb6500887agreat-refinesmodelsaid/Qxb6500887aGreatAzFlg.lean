/- Flags of entries in a word: the first and the last; ranges of entries, plainly. -/
import Derived.Test.Qxb6500887aGreatAz3
namespace Go.Proofs.Qxb6500887aGreat
open Go.RowKit
set_option linter.unusedSimpArgs false
set_option linter.unusedVariables false

/-- y flags, in word q, the entries of which G holds. -/
def Flg (wd per q : Nat) (G : Nat → Bool) (y : Nat) : Prop := ∀ i, i < 64 → y.testBit i = (decide (i % wd = 0) && G (per * q + i / wd))
section
variable {wd per q y : Nat} {G : Nat → Bool}
theorem Flg.zero (h : Flg wd per q G y) (hw : Wd wd per) (h0 : y = 0) : ∀ j, j < per → G (per * q + j) = false := fun j hj => by
  have hi : j * wd < 64 ∧ j * wd % wd = 0 ∧ j * wd / wd = j := by rcases hw with ⟨rfl, rfl⟩ | ⟨rfl, rfl⟩ | ⟨rfl, rfl⟩ <;> omega
  have := h (j * wd) hi.1
  rw [h0, Nat.zero_testBit, hi.2.1, hi.2.2] at this
  simpa using this.symm
theorem Flg.low (h : Flg wd per q G y) (hw : Wd wd per) {k : Nat} (hk : k < 64) (hl : Low y k) : k / wd < per ∧ G (per * q + k / wd) = true ∧ ∀ j, j < k / wd → G (per * q + j) = false := by
  have hb := h k hk
  rw [hl.1] at hb
  have hb' := hb.symm
  rw [Bool.and_eq_true] at hb'
  refine ⟨?_, hb'.2, fun j hj => ?_⟩
  · rcases hw with ⟨rfl, rfl⟩ | ⟨rfl, rfl⟩ | ⟨rfl, rfl⟩ <;> omega
  · have hi : j * wd < k ∧ j * wd % wd = 0 ∧ j * wd / wd = j := by rcases hw with ⟨rfl, rfl⟩ | ⟨rfl, rfl⟩ | ⟨rfl, rfl⟩ <;> omega
    have h1 := h (j * wd) (by omega)
    rw [hl.2 _ hi.1, hi.2.1, hi.2.2] at h1
    simpa using h1.symm
theorem Flg.high (h : Flg wd per q G y) (hw : Wd wd per) {k : Nat} (hk : k < 64) (h1 : y.testBit k = true) (h2 : y < 2 ^ (k + 1)) : k / wd < per ∧ G (per * q + k / wd) = true ∧ ∀ j, k / wd < j → j < per → G (per * q + j) = false := by
  have hb := h k hk
  rw [h1] at hb
  have hb' := hb.symm
  rw [Bool.and_eq_true] at hb'
  refine ⟨?_, hb'.2, fun j hj hjp => ?_⟩
  · rcases hw with ⟨rfl, rfl⟩ | ⟨rfl, rfl⟩ | ⟨rfl, rfl⟩ <;> omega
  · have hi : k < j * wd ∧ j * wd < 64 ∧ j * wd % wd = 0 ∧ j * wd / wd = j := by rcases hw with ⟨rfl, rfl⟩ | ⟨rfl, rfl⟩ | ⟨rfl, rfl⟩ <;> omega
    have h3 := h (j * wd) hi.2.1
    rw [Nat.testBit_lt_two_pow (Nat.lt_of_lt_of_le h2 (Nat.pow_le_pow_right (by decide) hi.1)), hi.2.2.1, hi.2.2.2] at h3
    simpa using h3.symm
end
section
variable {wd per len lo hi fw lw fm lm : Nat} {X : Nat → Nat}
/-- What a table's entry is not. -/
def nzP (wd per : Nat) (X : Nat → Nat) (i : Nat) : Bool := !(eN wd per X i == 0)
def zrP (wd per : Nat) (X : Nat → Nat) (i : Nat) : Bool := eN wd per X i == 0
theorem eN_at (hw : Wd wd per) (q j : Nat) (hj : j < per) : eN wd per X (per * q + j) = enW wd (X q) j := by
  unfold eN
  have h := hw.mul
  rw [Nat.mul_add_div (by omega), Nat.div_eq_of_lt hj, Nat.add_zero, Nat.mul_add_mod, Nat.mod_eq_of_lt hj]
/-- A masked word's entries. -/
theorem enW_mask (hw : Wd wd per) {q j : Nat} (hlt : lo < hi) (h1 : lo / per ≤ q) (h2 : q ≤ (hi - 1) / per) (hj : j < per) (x : Nat) : enW wd (x &&& mskW wd per lo hi q) j = if inR lo hi (per * q + j) = true then enW wd x j else 0 := by
  apply Nat.eq_of_testBit_eq
  intro i
  rw [testBit_enW, Nat.testBit_and]
  by_cases hiw : i < wd
  · have hb : j * wd + i < 64 ∧ (j * wd + i) / wd = j := by rcases hw with ⟨rfl, rfl⟩ | ⟨rfl, rfl⟩ | ⟨rfl, rfl⟩ <;> omega
    rw [testBit_mskW hw hlt h1 h2 hb.1, hb.2]
    show (x.testBit (j * wd + i) && inR lo hi (per * q + j) && decide (i < wd)) = _
    cases hr : inR lo hi (per * q + j)
    · simp
    · rw [if_pos rfl, testBit_enW]
      simp
  · rw [decide_eq_false hiw, Bool.and_false]
    split
    · rw [testBit_enW, decide_eq_false hiw, Bool.and_false]
    · rw [Nat.zero_testBit]
theorem flg_nz (hw : Wd wd per) {q : Nat} (hlt : lo < hi) (h1 : lo / per ≤ q) (h2 : q ≤ (hi - 1) / per) : Flg wd per q (fun i => inR lo hi i && nzP wd per X i) (nzW wd (X q &&& mskW wd per lo hi q)) := fun i hi64 => by
  rw [testBit_nzW hw hi64]
  congr 1
  have hj : i / wd < per := by rcases hw with ⟨rfl, rfl⟩ | ⟨rfl, rfl⟩ | ⟨rfl, rfl⟩ <;> omega
  rw [enW_mask hw hlt h1 h2 hj]
  show _ = (inR lo hi (per * q + i / wd) && !(eN wd per X (per * q + i / wd) == 0))
  rw [eN_at hw q _ hj]
  cases inR lo hi (per * q + i / wd) <;> simp
theorem flg_zr (hw : Wd wd per) {q : Nat} (hlt : lo < hi) (h1 : lo / per ≤ q) (h2 : q ≤ (hi - 1) / per) : Flg wd per q (fun i => inR lo hi i && zrP wd per X i) (((18446744073709551615 - nzW wd (X q)) &&& onW wd) &&& mskW wd per lo hi q) := fun i hi64 => by
  rw [Nat.testBit_and, Nat.testBit_and, testBit_not _ _ (nzW_lt wd _), testBit_nzW hw hi64, testBit_onW hw hi64, testBit_mskW hw hlt h1 h2 hi64]
  have hj : i / wd < per := by rcases hw with ⟨rfl, rfl⟩ | ⟨rfl, rfl⟩ | ⟨rfl, rfl⟩ <;> omega
  show _ = (decide (i % wd = 0) && (inR lo hi (per * q + i / wd) && (eN wd per X (per * q + i / wd) == 0)))
  rw [eN_at hw q _ hj, decide_eq_true hi64]
  unfold inR
  cases decide (i % wd = 0) <;> cases (enW wd (X q) (i / wd) == 0) <;> simp
theorem nzW_ne {x : Nat} (hw : Wd wd per) (hx : x < 18446744073709551616) (h0 : x ≠ 0) : nzW wd x ≠ 0 := fun e => by
  obtain ⟨i, hi⟩ := Nat.exists_testBit_of_ne_zero h0
  have hi64 : i < 64 := by
    rcases Nat.lt_or_ge i 64 with h | h
    · exact h
    · rw [testBit_high hx h] at hi; cases hi
  have hb : i / wd * wd < 64 ∧ i / wd * wd % wd = 0 ∧ i / wd * wd / wd = i / wd ∧ i / wd * wd + i % wd = i ∧ i % wd < wd := by rcases hw with ⟨rfl, rfl⟩ | ⟨rfl, rfl⟩ | ⟨rfl, rfl⟩ <;> omega
  have h := testBit_nzW (x := x) hw hb.1
  rw [e, Nat.zero_testBit, hb.2.1, hb.2.2.1] at h
  have hne : enW wd x (i / wd) ≠ 0 := (enW_ne hw).2 ⟨i % wd, hb.2.2.2.2, by rw [hb.2.2.2.1]; exact hi⟩
  simp [hne] at h
/-- The answer of a search: the first index of the range of which P holds, or -1. -/
def Nx (P : Nat → Bool) (lo hi : Nat) (r : Int) : Prop := (r = -1 ∧ ∀ i, lo ≤ i → i < hi → P i = false) ∨ ∃ k : Nat, r = (k : Int) ∧ lo ≤ k ∧ k < hi ∧ P k = true ∧ ∀ i, lo ≤ i → i < k → P i = false
theorem split_word {P : Nat → Bool} {q i : Nat} (hp : 1 ≤ per) (h : i < per * (q + 1)) (h2 : ¬ i < per * q) : ∃ j, j < per ∧ i = per * q + j := ⟨i - per * q, by rw [Nat.mul_add, Nat.mul_one] at h; omega, by omega⟩
/-- One word without a find. -/
theorem nx_step {P : Nat → Bool} {q : Nat} (hp : 1 ≤ per) (hprev : ∀ i, lo ≤ i → i < hi → i < per * q → P i = false) (hz : ∀ j, j < per → (inR lo hi (per * q + j) && P (per * q + j)) = false) : ∀ i, lo ≤ i → i < hi → i < per * (q + 1) → P i = false := fun i h1 h2 h3 => by
  by_cases h4 : i < per * q
  · exact hprev i h1 h2 h4
  · obtain ⟨j, hj, rfl⟩ := split_word (P := P) hp h3 h4
    have := hz j hj
    rw [inR_iff.2 ⟨h1, h2⟩] at this
    simpa using this
theorem nx_find {P : Nat → Bool} {q j : Nat} (hp : 1 ≤ per) (hprev : ∀ i, lo ≤ i → i < hi → i < per * q → P i = false) (hj : j < per) (hf : (inR lo hi (per * q + j) && P (per * q + j)) = true) (hz : ∀ j', j' < j → (inR lo hi (per * q + j') && P (per * q + j')) = false) : Nx P lo hi ((per * q + j : Nat) : Int) := by
  rw [Bool.and_eq_true] at hf
  have hr := inR_iff.1 hf.1
  refine .inr ⟨per * q + j, rfl, hr.1, hr.2, hf.2, fun i h1 h2 => ?_⟩
  by_cases h4 : i < per * q
  · exact hprev i h1 (by omega) h4
  · have := hz (i - per * q) (by omega)
    rw [show per * q + (i - per * q) = i by omega, inR_iff.2 ⟨h1, by omega⟩] at this
    simpa using this
theorem nx_end {P : Nat → Bool} (hp : 1 ≤ per) (hprev : ∀ i, lo ≤ i → i < hi → i < per * ((hi - 1) / per + 1) → P i = false) : Nx P lo hi (-1) := .inl ⟨rfl, fun i h1 h2 => hprev i h1 h2 (by
  have := Nat.lt_div_mul_add (a := hi - 1) (b := per) (by omega)
  rw [Nat.mul_add, Nat.mul_one, Nat.mul_comm]
  omega)⟩
theorem nx_start {P : Nat → Bool} (hp : 1 ≤ per) : ∀ i, lo ≤ i → i < hi → i < per * (lo / per) → P i = false := fun i h1 h2 h3 => by
  have := Nat.mul_div_le lo per
  omega
/-- The answer of a search from the end. -/
def Pv (P : Nat → Bool) (lo hi : Nat) (r : Int) : Prop := (r = -1 ∧ ∀ i, lo ≤ i → i < hi → P i = false) ∨ ∃ k : Nat, r = (k : Int) ∧ lo ≤ k ∧ k < hi ∧ P k = true ∧ ∀ i, k < i → i < hi → P i = false
theorem pv_step {P : Nat → Bool} {q : Nat} (hp : 1 ≤ per) (hprev : ∀ i, lo ≤ i → i < hi → per * (q + 1) ≤ i → P i = false) (hz : ∀ j, j < per → (inR lo hi (per * q + j) && P (per * q + j)) = false) : ∀ i, lo ≤ i → i < hi → per * q ≤ i → P i = false := fun i h1 h2 h3 => by
  by_cases h4 : per * (q + 1) ≤ i
  · exact hprev i h1 h2 h4
  · obtain ⟨j, hj, rfl⟩ := split_word (P := P) (q := q) (per := per) (i := i) hp (by omega) (by omega)
    have := hz j hj
    rw [inR_iff.2 ⟨h1, h2⟩] at this
    simpa using this
theorem pv_find {P : Nat → Bool} {q j : Nat} (hp : 1 ≤ per) (hprev : ∀ i, lo ≤ i → i < hi → per * (q + 1) ≤ i → P i = false) (hj : j < per) (hf : (inR lo hi (per * q + j) && P (per * q + j)) = true) (hz : ∀ j', j < j' → j' < per → (inR lo hi (per * q + j') && P (per * q + j')) = false) : Pv P lo hi ((per * q + j : Nat) : Int) := by
  rw [Bool.and_eq_true] at hf
  have hr := inR_iff.1 hf.1
  refine .inr ⟨per * q + j, rfl, hr.1, hr.2, hf.2, fun i h1 h2 => ?_⟩
  by_cases h4 : per * (q + 1) ≤ i
  · exact hprev i (by omega) h2 h4
  · rw [Nat.mul_add, Nat.mul_one] at h4
    have := hz (i - per * q) (by omega) (by omega)
    rw [show per * q + (i - per * q) = i by omega, inR_iff.2 ⟨by omega, h2⟩] at this
    simpa using this
end
end Go.Proofs.Qxb6500887aGreat
