/- Plain: textm.Shape, InRange, Value against text.ParseInt. -/
import Derived.Test.Qxb6500890aDoorTextParsePlain
import GoSem.Op.String
namespace Go.Proofs.Qxb6500890aDoor

def dval (c : UInt8) : Nat := c.toNat - 48
def natAcc : List UInt8 → Nat → Nat
  | [], u => u
  | c :: r, u => natAcc r (u * 10 + dval c)
def natOf (l : List UInt8) : Nat := natAcc l 0
def digsOf (l : List UInt8) : List UInt8 := if isNeg l then l.tail else l
def shapeB (l : List UInt8) : Bool := !(digsOf l).isEmpty && (digsOf l).all isDig
def stripZ : List UInt8 → List UInt8
  | [] => []
  | [c] => [c]
  | c :: d :: r => if c.toNat = 48 then stripZ (d :: r) else c :: d :: r
def boundOf (neg : Bool) : List UInt8 := if neg then [57, 50, 50, 51, 51, 55, 50, 48, 51, 54, 56, 53, 52, 55, 55, 53, 56, 48, 56] else [57, 50, 50, 51, 51, 55, 50, 48, 51, 54, 56, 53, 52, 55, 55, 53, 56, 48, 55]
def cmpB (l b : List UInt8) : Bool := if l.length = b.length then Op.bytesLess l b || l == b else decide (l.length < b.length)
def inRangeB (l : List UInt8) : Bool := cmpB (stripZ (digsOf l)) (boundOf (isNeg l))
def limit (neg : Bool) : Nat := if neg then 9223372036854775808 else 9223372036854775807
def valueOf (l : List UInt8) : Int := if isNeg l then -(natOf (digsOf l) : Int) else natOf (digsOf l)

theorem natAcc_ge : ∀ (l : List UInt8) (u : Nat), u ≤ natAcc l u
  | [], u => Nat.le_refl _
  | c :: r, u => Nat.le_trans (by omega) (natAcc_ge r (u * 10 + dval c))

theorem accum_nat (lim : Nat) (h9 : 9 ≤ lim) : ∀ (l : List UInt8) (u : Nat), (∀ c ∈ l, isDig c = true) → u ≤ lim → accum lim l u = if natAcc l u ≤ lim then some (natAcc l u) else none
  | [], u, _, hu => by simp [accum, natAcc, hu]
  | c :: r, u, hd, hu => by
    have hc := hd c (by simp)
    simp [isDig] at hc
    have e : natAcc (c :: r) u = natAcc r (u * 10 + dval c) := rfl
    rw [accum, e]
    by_cases h : (lim - (c.toNat - 48)) / 10 < u
    · rw [if_pos h, if_neg]
      have := natAcc_ge r (u * 10 + dval c)
      unfold dval at this ⊢
      omega
    · rw [if_neg h]
      exact accum_nat lim h9 r _ (fun x hx => hd x (by simp [hx])) (by omega)

theorem natAcc_mono : ∀ (a b : List UInt8) (u v : Nat), a.length = b.length → (∀ c ∈ a, isDig c = true) → (∀ c ∈ b, isDig c = true) → u < v → natAcc a u < natAcc b v
  | [], [], u, v, _, _, _, h => h
  | [], _ :: _, _, _, h, _, _, _ => by simp at h
  | _ :: _, [], _, _, h, _, _, _ => by simp at h
  | x :: a, y :: b, u, v, h, ha, hb, huv => by
    have hx := ha x (by simp)
    have hy := hb y (by simp)
    simp [isDig] at hx hy
    exact natAcc_mono a b _ _ (by simpa using h) (fun c hc => ha c (by simp [hc])) (fun c hc => hb c (by simp [hc])) (by unfold dval; omega)

/-- Numbers of one length are ordered as their digits are. -/
theorem lex_num : ∀ (a b : List UInt8) (u : Nat), a.length = b.length → (∀ c ∈ a, isDig c = true) → (∀ c ∈ b, isDig c = true) →
    (natAcc a u ≤ natAcc b u ↔ (Op.bytesLess a b || a == b) = true)
  | [], [], u, _, _, _ => by simp [natAcc]
  | [], _ :: _, _, h, _, _ => by simp at h
  | _ :: _, [], _, h, _, _ => by simp at h
  | x :: a, y :: b, u, h, ha, hb => by
    have hx := ha x (by simp)
    have hy := hb y (by simp)
    simp [isDig] at hx hy
    have hl : a.length = b.length := by simpa using h
    have ha' : ∀ c ∈ a, isDig c = true := fun c hc => ha c (by simp [hc])
    have hb' : ∀ c ∈ b, isDig c = true := fun c hc => hb c (by simp [hc])
    have e1 : natAcc (x :: a) u = natAcc a (u * 10 + dval x) := rfl
    have e2 : natAcc (y :: b) u = natAcc b (u * 10 + dval y) := rfl
    rw [e1, e2]
    rcases Nat.lt_trichotomy x.toNat y.toNat with hlt | heq | hgt
    · have h1 := natAcc_mono a b (u * 10 + dval x) (u * 10 + dval y) hl ha' hb' (by unfold dval; omega)
      have h2 : (Op.bytesLess (x :: a) (y :: b) || x :: a == y :: b) = true := by
        have : x < y := UInt8.lt_iff_toNat_lt.2 hlt
        simp [Op.bytesLess, this]
      exact ⟨fun _ => h2, fun _ => by omega⟩
    · have exy : x = y := UInt8.toNat_inj.1 heq
      subst exy
      rw [lex_num a b _ hl ha' hb']
      simp [Op.bytesLess]
    · have h1 := natAcc_mono b a (u * 10 + dval y) (u * 10 + dval x) hl.symm hb' ha' (by unfold dval; omega)
      have h3 : ¬ x < y := fun h => by have := UInt8.lt_iff_toNat_lt.1 h; omega
      have h4 : ¬ x = y := fun h => by rw [h] at hgt; omega
      constructor
      · intro h; omega
      · intro h; simp [Op.bytesLess, h3, h4] at h

theorem natAcc_lt : ∀ (l : List UInt8) (u : Nat), (∀ c ∈ l, isDig c = true) → natAcc l u < (u + 1) * 10 ^ l.length
  | [], u, _ => by simp [natAcc]
  | c :: r, u, hd => by
    have hc := hd c (by simp)
    simp [isDig] at hc
    have ih := natAcc_lt r (u * 10 + dval c) (fun x hx => hd x (by simp [hx]))
    simp only [natAcc, List.length_cons, Nat.pow_succ]
    have h2 : (u * 10 + dval c + 1) * 10 ^ r.length ≤ ((u + 1) * 10) * 10 ^ r.length := Nat.mul_le_mul_right _ (by unfold dval; omega)
    have e : (u + 1) * (10 ^ r.length * 10) = ((u + 1) * 10) * 10 ^ r.length := by rw [Nat.mul_comm (10 ^ r.length) 10, Nat.mul_assoc]
    omega
theorem natAcc_ge_pow : ∀ (l : List UInt8) (u : Nat), u * 10 ^ l.length ≤ natAcc l u
  | [], u => by simp [natAcc]
  | c :: r, u => by
    have ih := natAcc_ge_pow r (u * 10 + dval c)
    simp only [natAcc, List.length_cons, Nat.pow_succ]
    have h2 : (u * 10) * 10 ^ r.length ≤ (u * 10 + dval c) * 10 ^ r.length := Nat.mul_le_mul_right _ (by omega)
    have e : u * (10 ^ r.length * 10) = (u * 10) * 10 ^ r.length := by rw [Nat.mul_comm (10 ^ r.length) 10, Nat.mul_assoc]
    omega

theorem strip_nat : ∀ (l : List UInt8), natOf (stripZ l) = natOf l
  | [] => rfl
  | [c] => rfl
  | c :: d :: r => by
    rw [stripZ]
    split
    · rename_i h
      rw [strip_nat (d :: r)]
      simp [natOf, natAcc, dval, h]
    · rfl
theorem strip_dig : ∀ (l : List UInt8), (∀ c ∈ l, isDig c = true) → ∀ c ∈ stripZ l, isDig c = true
  | [], h => h
  | [c], h => h
  | c :: d :: r, h => by
    rw [stripZ]
    split
    · exact strip_dig (d :: r) (fun x hx => h x (by simp [hx]))
    · exact h
theorem strip_head : ∀ (l : List UInt8), l ≠ [] → (∀ c ∈ l, isDig c = true) → ∃ c r, stripZ l = c :: r ∧ (r = [] ∨ 49 ≤ c.toNat)
  | [], h, _ => absurd rfl h
  | [c], _, _ => ⟨c, [], rfl, .inl rfl⟩
  | c :: d :: r, _, h => by
    rw [stripZ]
    split
    · exact strip_head (d :: r) (by simp) (fun x hx => h x (by simp [hx]))
    · rename_i hc
      have := h c (by simp)
      simp [isDig] at this
      exact ⟨c, d :: r, rfl, .inr (by omega)⟩

theorem bound_facts (neg : Bool) : (boundOf neg).length = 19 ∧ natOf (boundOf neg) = limit neg ∧ ∀ c ∈ boundOf neg, isDig c = true := by
  cases neg <;> decide +kernel

/-- InRange says just whether the number is within the limit. -/
theorem range_iff (neg : Bool) (d : List UInt8) (hne : d ≠ []) (hd : ∀ c ∈ d, isDig c = true) : cmpB (stripZ d) (boundOf neg) = decide (natOf d ≤ limit neg) := by
  obtain ⟨hb1, hb2, hb3⟩ := bound_facts neg
  have hsd := strip_dig d hd
  rw [← strip_nat d, ← hb2]
  have hlim : 9223372036854775807 ≤ limit neg ∧ limit neg ≤ 9223372036854775808 := by cases neg <;> decide
  unfold cmpB
  by_cases hl : (stripZ d).length = (boundOf neg).length
  · rw [if_pos hl]
    have := lex_num (stripZ d) (boundOf neg) 0 hl hsd hb3
    rw [Bool.eq_iff_iff, ← this, decide_eq_true_eq]
    rfl
  · rw [if_neg hl, hb1, Bool.eq_iff_iff, decide_eq_true_eq, decide_eq_true_eq, hb2]
    rw [hb1] at hl
    constructor
    · intro h
      have h2 := natAcc_lt (stripZ d) 0 hsd
      have h3 : 10 ^ (stripZ d).length ≤ 10 ^ 18 := Nat.pow_le_pow_right (by decide) (by omega)
      unfold natOf
      omega
    · intro h
      obtain ⟨c, r, hs, hr⟩ := strip_head d hne hd
      by_cases h20 : (stripZ d).length ≤ 19
      · omega
      · exfalso
        rcases hr with hr | hr
        · rw [hs, hr] at h20; simp at h20
        · rw [hs] at h h20
          have h2 := natAcc_ge_pow r (dval c)
          have h4 : natOf (c :: r) = natAcc r (dval c) := by simp [natOf, natAcc]
          have h3 : 10 ^ 19 ≤ 10 ^ r.length := Nat.pow_le_pow_right (by decide) (by simp at h20; omega)
          have h5 : 1 * 10 ^ r.length ≤ dval c * 10 ^ r.length := Nat.mul_le_mul_right _ (by unfold dval; omega)
          omega

theorem shape_open {l : List UInt8} (h : shapeB l = true) : digsOf l ≠ [] ∧ ∀ c ∈ digsOf l, isDig c = true := by
  simp only [shapeB, Bool.and_eq_true, Bool.not_eq_true', List.isEmpty_eq_false_iff, List.all_eq_true] at h
  exact h

/-- The law. -/
theorem accepts (l : List UInt8) : parseOut l = if shapeB l = false then (0, 1) else if inRangeB l = false then (0, 2) else (valueOf l, 0) := by
  have e0 : parseOut l = parseRest (isNeg l) (digsOf l) := rfl
  rw [e0, parseRest]
  cases hs : shapeB l with
  | false =>
    rw [if_pos rfl]
    simp only [shapeB, Bool.and_eq_false_iff, Bool.not_eq_false', List.isEmpty_iff] at hs
    rcases hs with hs | hs
    · rw [if_pos hs]
    · by_cases h0 : digsOf l = []
      · rw [if_pos h0]
      · rw [if_neg h0, if_pos hs]
  | true =>
    obtain ⟨h1, h2⟩ := shape_open hs
    rw [if_neg h1, if_neg (show ¬ (digsOf l).all isDig = false by rw [Bool.not_eq_false, List.all_eq_true]; exact h2), if_neg (show ¬ true = false by decide)]
    have e1 : (if isNeg l then 9223372036854775808 else 9223372036854775807 : Nat) = limit (isNeg l) := rfl
    rw [e1, accum_nat (limit (isNeg l)) (by cases isNeg l <;> decide) _ 0 h2 (Nat.zero_le _)]
    have e2 : inRangeB l = decide (natOf (digsOf l) ≤ limit (isNeg l)) := range_iff (isNeg l) (digsOf l) h1 h2
    by_cases hr : natOf (digsOf l) ≤ limit (isNeg l)
    · rw [e2, decide_eq_true hr, if_neg (show ¬ true = false by decide)]
      have hr' : natAcc (digsOf l) 0 ≤ limit (isNeg l) := hr
      rw [if_pos hr']
      simp [valueOf, natOf]
    · rw [e2, decide_eq_false hr, if_pos rfl]
      have hr' : ¬ natAcc (digsOf l) 0 ≤ limit (isNeg l) := hr
      rw [if_neg hr']
end Go.Proofs.Qxb6500890aDoor
