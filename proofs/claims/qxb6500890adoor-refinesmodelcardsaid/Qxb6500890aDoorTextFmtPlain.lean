/- Plain: the decimal text of an integer. -/
import Derived.Test.Qxb6500890aDoorTextParsePlain
namespace Go.Proofs.Qxb6500890aDoor

/-- The digits of u, as bytes, the first first; 'fuel' bounds their number. -/
def digsF : Nat → Nat → List UInt8
  | 0, u => [UInt8.ofNat (48 + u % 10)]
  | f + 1, u => if u < 10 then [UInt8.ofNat (48 + u)] else digsF f (u / 10) ++ [UInt8.ofNat (48 + u % 10)]
def digs (u : Nat) : List UInt8 := digsF 20 u
def fmtL (v : Int) : List UInt8 := if v < 0 then 45 :: digs v.natAbs else digs v.natAbs

/-- More fuel changes nothing. -/
theorem digsF_more : ∀ (f u : Nat), u < 10 ^ (f + 1) → digsF (f + 1) u = digsF f u
  | 0, u, h => by
    have : u < 10 := by simpa using h
    simp [digsF, this, Nat.mod_eq_of_lt this]
  | f + 1, u, h => by
    rw [digsF]
    conv => rhs; rw [digsF]
    by_cases hu : u < 10
    · rw [if_pos hu, if_pos hu]
    · rw [if_neg hu, if_neg hu, digsF_more f (u / 10) (by rw [Nat.pow_succ] at h; omega)]

theorem digs_big (u : Nat) (h : u < 10 ^ 20) (h10 : 10 ≤ u) : digs u = digs (u / 10) ++ [UInt8.ofNat (48 + u % 10)] := by
  unfold digs
  rw [digsF, if_neg (by omega), digsF_more 19 (u / 10) (by omega)]
theorem digs_small (u : Nat) (h10 : u < 10) : digs u = [UInt8.ofNat (48 + u)] := by
  unfold digs
  rw [digsF, if_pos h10]

theorem digs_len : ∀ (k u : Nat), 0 < k → k ≤ 20 → u < 10 ^ k → (digs u).length ≤ k
  | 0, _, h, _, _ => absurd h (by decide)
  | 1, u, _, _, h => by rw [digs_small u (by simpa using h)]; simp
  | k + 2, u, _, hk, h => by
    by_cases h10 : u < 10
    · rw [digs_small u h10]; simp
    · have hb : u < 10 ^ 20 := Nat.lt_of_lt_of_le h (Nat.pow_le_pow_right (by decide) hk)
      rw [digs_big u hb (by omega), List.length_append]
      have := digs_len (k + 1) (u / 10) (by omega) (by omega) (by rw [Nat.pow_succ] at h; omega)
      simp; omega
theorem digs_pos (u : Nat) (h : u < 10 ^ 20) : digs u ≠ [] := by
  by_cases h10 : u < 10
  · rw [digs_small u h10]; simp
  · rw [digs_big u h (by omega)]; simp

theorem ofNat_toNat {n : Nat} (h : n < 256) : (UInt8.ofNat n).toNat = n := by simp [Nat.mod_eq_of_lt h]

theorem digs_dig (u : Nat) (h : u < 10 ^ 20) : ∀ c ∈ digs u, isDig c = true := by
  induction u using Nat.strongRecOn with
  | _ u ih =>
    by_cases h10 : u < 10
    · rw [digs_small u h10]
      intro c hc
      rw [List.mem_singleton] at hc
      subst hc
      simp only [isDig, ofNat_toNat (show 48 + u < 256 by omega), Bool.and_eq_true, decide_eq_true_eq]
      omega
    · rw [digs_big u h (by omega)]
      intro c hc
      rcases List.mem_append.1 hc with hc | hc
      · exact ih (u / 10) (by omega) (by omega) c hc
      · rw [List.mem_singleton] at hc
        subst hc
        simp only [isDig, ofNat_toNat (show 48 + u % 10 < 256 by omega), Bool.and_eq_true, decide_eq_true_eq]
        omega

theorem accum_append (limit : Nat) : ∀ (a b : List UInt8) (u : Nat), accum limit (a ++ b) u = (accum limit a u).bind fun v => accum limit b v
  | [], b, u => rfl
  | c :: a, b, u => by
    simp only [List.cons_append, accum]
    split
    · rfl
    · exact accum_append limit a b _

theorem accum_digs (limit : Nat) (u : Nat) (h : u < 10 ^ 20) (hl : u ≤ limit) (h57 : 57 ≤ limit) : accum limit (digs u) 0 = some u := by
  induction u using Nat.strongRecOn with
  | _ u ih =>
    by_cases h10 : u < 10
    · rw [digs_small u h10]
      simp only [accum, ofNat_toNat (show 48 + u < 256 by omega)]
      rw [if_neg (by omega)]
      simp
    · rw [digs_big u h (by omega), accum_append, ih (u / 10) (by omega) (by omega) (by omega)]
      simp only [Option.bind_some, accum, ofNat_toNat (show 48 + u % 10 < 256 by omega)]
      rw [if_neg (by omega)]
      congr 1
      omega

/-- Parsing the printed text of an int64 gives it back. -/
theorem parse_fmt (v : Int) (h1 : -9223372036854775808 ≤ v) (h2 : v ≤ 9223372036854775807) : parseOut (fmtL v) = (v, 0) := by
  have hb : v.natAbs < 10 ^ 20 := by omega
  have hp := digs_pos v.natAbs hb
  have hd := digs_dig v.natAbs hb
  have hall : ¬ (digs v.natAbs).all isDig = false := by rw [Bool.not_eq_false, List.all_eq_true]; exact hd
  unfold fmtL
  by_cases h : v < 0
  · rw [if_pos h]
    have hn : isNeg (45 :: digs v.natAbs) = true := by simp [isNeg]
    rw [parseOut, hn, if_pos rfl, List.tail_cons, parseRest, if_neg hp, if_neg hall]
    have := accum_digs 9223372036854775808 v.natAbs hb (by omega) (by omega)
    simp only [if_true, this, Prod.mk.injEq, and_true]
    omega
  · rw [if_neg h]
    have hn : isNeg (digs v.natAbs) = false := by
      cases hx : digs v.natAbs with
      | nil => exact absurd hx hp
      | cons c r =>
        have hc := hd c (by rw [hx]; simp)
        have : c ≠ 45 := by rintro rfl; exact absurd hc (by decide)
        simp [isNeg, this]
    rw [parseOut, hn]
    simp only [Bool.false_eq_true, if_false]
    rw [parseRest, if_neg hp, if_neg hall]
    have := accum_digs 9223372036854775807 v.natAbs hb (by omega) (by omega)
    simp only [Bool.false_eq_true, if_false, this, Prod.mk.injEq, and_true]
    omega
end Go.Proofs.Qxb6500890aDoor
