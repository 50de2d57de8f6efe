/- subMag: the borrow. -/
import Derived.Test.Qxb6500890aDoorTextWideAdd
namespace Go.Proofs.Qxb6500890aDoor
open Go.RowKit
set_option linter.unusedSimpArgs false
set_option linter.unusedVariables false

def bor (a b k : Nat) : Nat := if a % B32 ^ k < b % B32 ^ k then 1 else 0
theorem bor_le (a b k : Nat) : bor a b k ≤ 1 := by unfold bor; split <;> omega

theorem div_unique {n P Q R : Nat} (h : n = Q * P + R) (hR : R < P) : n / P = Q := by
  subst h
  rw [Nat.mul_comm, Nat.mul_add_div (by omega), Nat.div_eq_of_lt hR, Nat.add_zero]

theorem dg_split (a k : Nat) : a = a / B32 ^ (k + 1) * B32 * B32 ^ k + dg a k * B32 ^ k + a % B32 ^ k := by
  have h1 := Nat.div_add_mod a (B32 ^ (k + 1))
  rw [mod_succ] at h1
  rw [Nat.mul_assoc, Nat.mul_comm B32, ← Nat.pow_succ, Nat.mul_comm (a / _)]
  simp only [Nat.succ_eq_add_one]
  omega

theorem lex_lt {P X Y ra rb : Nat} (h1 : ra < P) (h2 : rb < P) : X * P + ra < Y * P + rb ↔ X < Y + (if ra < rb then 1 else 0) := by
  rcases Nat.lt_trichotomy X Y with h | h | h
  · have : (X + 1) * P ≤ Y * P := Nat.mul_le_mul_right P h
    rw [Nat.add_mul, Nat.one_mul] at this
    constructor
    · intro _; omega
    · intro _; omega
  · subst h
    by_cases hr : ra < rb
    · rw [if_pos hr]; constructor <;> intro _ <;> omega
    · rw [if_neg hr]; constructor <;> intro _ <;> omega
  · have : (Y + 1) * P ≤ X * P := Nat.mul_le_mul_right P h
    rw [Nat.add_mul, Nat.one_mul] at this
    constructor
    · intro _; omega
    · intro hh; split at hh <;> omega

theorem sub_div {P X Y ra rb : Nat} (h1 : ra < P) (h2 : rb < P) (h : Y * P + rb ≤ X * P + ra) : (X * P + ra - (Y * P + rb)) / P = X - (Y + (if ra < rb then 1 else 0)) ∧ Y + (if ra < rb then 1 else 0) ≤ X := by
  have hn : ¬ X * P + ra < Y * P + rb := by omega
  rw [lex_lt h1 h2] at hn
  refine ⟨?_, by omega⟩
  by_cases hr : ra < rb
  · rw [if_pos hr] at hn ⊢
    obtain ⟨D, rfl⟩ : ∃ D, X = Y + 1 + D := ⟨X - (Y + 1), by omega⟩
    refine div_unique (R := P + ra - rb) ?_ (by omega)
    rw [show Y + 1 + D - (Y + 1) = D by omega, Nat.add_mul, Nat.add_mul, Nat.one_mul]
    omega
  · rw [if_neg hr] at hn ⊢
    obtain ⟨D, rfl⟩ : ∃ D, X = Y + D := ⟨X - Y, by omega⟩
    refine div_unique (R := ra - rb) ?_ (by omega)
    rw [show Y + D - (Y + 0) = D by omega, Nat.add_mul]
    omega

theorem bor_step {a b : Nat} (hab : b ≤ a) (k : Nat) : bor a b (k + 1) = (if dg a k < dg b k + bor a b k then 1 else 0) ∧ dg (a - b) k = (if dg a k < dg b k + bor a b k then dg a k + 4294967296 - (dg b k + bor a b k) else dg a k - (dg b k + bor a b k)) := by
  have hp : 0 < B32 ^ k := Nat.pow_pos (by decide)
  have ha := Nat.mod_lt a hp
  have hb := Nat.mod_lt b hp
  constructor
  · unfold bor
    rw [mod_succ, mod_succ]
    congr 1
    exact propext (lex_lt ha hb)
  · have ea := dg_split a k
    have eb := dg_split b k
    rw [← Nat.add_mul] at ea eb
    obtain ⟨h1, h2⟩ := sub_div (X := a / B32 ^ (k + 1) * B32 + dg a k) (Y := b / B32 ^ (k + 1) * B32 + dg b k) ha hb (by rw [← ea, ← eb]; exact hab)
    rw [← ea, ← eb] at h1
    have hbo := bor_le a b k
    have l1 := dg_lt a k
    have l2 := dg_lt b k
    have e : dg (a - b) k = (a - b) / B32 ^ k % 4294967296 := rfl
    rw [e, h1]
    change _ = _
    have hb2 : (if a % B32 ^ k < b % B32 ^ k then 1 else 0) = bor a b k := rfl
    rw [hb2] at h2 ⊢
    generalize a / B32 ^ (k + 1) = A at *
    generalize b / B32 ^ (k + 1) = C at *
    generalize dg a k = x at *
    generalize dg b k = y at *
    generalize bor a b k = z at *
    clear ea eb h1 e hb2 ha hb hp
    unfold B32 at h2 ⊢
    split <;> omega
end Go.Proofs.Qxb6500890aDoor
