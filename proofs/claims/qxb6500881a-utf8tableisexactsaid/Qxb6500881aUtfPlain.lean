/- UTF-8 as plain functions on lists of bytes (natural numbers below 256): the decoder by its table, the model's encoder and decoder by arithmetic, and that they agree. No Go here. -/
import Derived.ProofKit
namespace Go.Proofs.Qxb6500881a
set_option linter.unusedSimpArgs false
set_option linter.unusedVariables false

def cont (lo hi r : Nat) : Nat → List Nat → Nat → Option (Nat × Nat)
  | 0, _, size => some (r, size)
  | _ + 1, [], _ => none
  | k + 1, c :: t, size => if c < lo ∨ hi < c then none else cont 128 191 (r * 64 + c % 64) k t size

def dec : List Nat → Option (Nat × Nat)
  | [] => none
  | b0 :: t =>
    if b0 < 128 then some (b0, 1)
    else if b0 < 194 ∨ 244 < b0 then none
    else if b0 < 224 then cont 128 191 (b0 % 32) 1 t 2
    else if b0 < 240 then cont (if b0 = 224 then 160 else 128) (if b0 = 237 then 159 else 191) (b0 % 16) 2 t 3
    else cont (if b0 = 240 then 144 else 128) (if b0 = 244 then 143 else 191) (b0 % 8) 3 t 4

def encN (n : Nat) : List Nat :=
  if n < 128 then [n]
  else if n < 2048 then [192 + n / 64, 128 + n % 64]
  else if n < 65536 then [224 + n / 4096, 128 + n / 64 % 64, 128 + n % 64]
  else [240 + n / 262144, 128 + n / 4096 % 64, 128 + n / 64 % 64, 128 + n % 64]

def noScalar (cp : Int) : Prop := cp < 0 ∨ 1114111 < cp ∨ (55296 ≤ cp ∧ cp ≤ 57343)
instance (cp : Int) : Decidable (noScalar cp) := by unfold noScalar; infer_instance
def encM (cp : Int) : Option (List Nat) := if noScalar cp then none else some (encN cp.toNat)

def cpN (l : List Nat) (n : Nat) : Int :=
  match n, l with
  | 1, b0 :: _ => (b0 : Int)
  | 2, b0 :: b1 :: _ => ((b0 : Int) - 192) * 64 + ((b1 : Int) - 128)
  | 3, b0 :: b1 :: b2 :: _ => ((b0 : Int) - 224) * 4096 + ((b1 : Int) - 128) * 64 + ((b2 : Int) - 128)
  | 4, b0 :: b1 :: b2 :: b3 :: _ => ((b0 : Int) - 240) * 262144 + ((b1 : Int) - 128) * 4096 + ((b2 : Int) - 128) * 64 + ((b3 : Int) - 128)
  | _, _ => 0

theorem cpN1 (b0 : Nat) (t : List Nat) : cpN (b0 :: t) 1 = (b0 : Int) := rfl
theorem cpN2 (b0 b1 : Nat) (t : List Nat) : cpN (b0 :: b1 :: t) 2 = ((b0 : Int) - 192) * 64 + ((b1 : Int) - 128) := rfl
theorem cpN3 (b0 b1 b2 : Nat) (t : List Nat) : cpN (b0 :: b1 :: b2 :: t) 3 = ((b0 : Int) - 224) * 4096 + ((b1 : Int) - 128) * 64 + ((b2 : Int) - 128) := rfl
theorem cpN4 (b0 b1 b2 b3 : Nat) (t : List Nat) : cpN (b0 :: b1 :: b2 :: b3 :: t) 4 = ((b0 : Int) - 240) * 262144 + ((b1 : Int) - 128) * 4096 + ((b2 : Int) - 128) * 64 + ((b3 : Int) - 128) := rfl

/-- The bytes l begin with the model's encoding of n bytes. -/
def Hit (l : List Nat) (n : Nat) : Prop := n ≤ l.length ∧ encM (cpN l n) = some (l.take n)

theorem encN_len (n : Nat) : (encN n).length = if n < 128 then 1 else if n < 2048 then 2 else if n < 65536 then 3 else 4 := by
  unfold encN
  split
  · rfl
  · split
    · rfl
    · split <;> rfl

theorem hit1 (b0 : Nat) (t : List Nat) (h0 : b0 < 256) : Hit (b0 :: t) 1 ↔ b0 < 128 := by
  unfold Hit
  rw [cpN1]
  unfold encM encN
  constructor
  · rintro ⟨_, h⟩
    split at h
    · cases h
    · simp only [Option.some.injEq, List.take_succ_cons, List.take_zero, Int.toNat_natCast] at h
      split at h
      · omega
      · split at h
        · simp at h
        · split at h <;> simp at h
  · intro h
    refine ⟨by simp, ?_⟩
    rw [if_neg (by unfold noScalar; omega), if_pos (by omega)]
    simp

theorem hit2 (b0 b1 : Nat) (t : List Nat) (h0 : b0 < 256) (h1 : b1 < 256) : Hit (b0 :: b1 :: t) 2 ↔ (194 ≤ b0 ∧ b0 < 224 ∧ 128 ≤ b1 ∧ b1 ≤ 191) := by
  unfold Hit
  rw [cpN2]
  unfold encM encN
  constructor
  · rintro ⟨_, h⟩
    split at h
    · cases h
    · rename_i hn
      unfold noScalar at hn
      simp only [Option.some.injEq, List.take_succ_cons, List.take_zero] at h
      generalize hc : (((b0 : Int) - 192) * 64 + ((b1 : Int) - 128)).toNat = n at h
      split at h
      · simp at h
      · split at h
        · simp only [List.cons.injEq, and_true] at h
          omega
        · split at h <;> simp at h
  · rintro ⟨a1, a2, a3, a4⟩
    refine ⟨by simp, ?_⟩
    rw [if_neg (by unfold noScalar; omega), if_neg (by omega), if_pos (by omega)]
    simp only [Option.some.injEq, List.take_succ_cons, List.take_zero, List.cons.injEq, and_true]
    omega

theorem hit3 (b0 b1 b2 : Nat) (t : List Nat) (h0 : b0 < 256) (h1 : b1 < 256) (h2 : b2 < 256) : Hit (b0 :: b1 :: b2 :: t) 3 ↔ (224 ≤ b0 ∧ b0 < 240 ∧ 128 ≤ b1 ∧ b1 ≤ 191 ∧ 128 ≤ b2 ∧ b2 ≤ 191 ∧ (b0 = 224 → 160 ≤ b1) ∧ (b0 = 237 → b1 ≤ 159)) := by
  unfold Hit
  rw [cpN3]
  unfold encM encN
  constructor
  · rintro ⟨_, h⟩
    split at h
    · cases h
    · rename_i hn
      unfold noScalar at hn
      simp only [Option.some.injEq, List.take_succ_cons, List.take_zero] at h
      generalize hc : (((b0 : Int) - 224) * 4096 + ((b1 : Int) - 128) * 64 + ((b2 : Int) - 128)).toNat = n at h
      split at h
      · simp at h
      · split at h
        · simp at h
        · split at h
          · simp only [List.cons.injEq, and_true] at h
            omega
          · simp at h
  · rintro ⟨a1, a2, a3, a4, a5, a6, a7, a8⟩
    refine ⟨by simp, ?_⟩
    rw [if_neg (by unfold noScalar; omega), if_neg (by omega), if_neg (by omega), if_pos (by omega)]
    simp only [Option.some.injEq, List.take_succ_cons, List.take_zero, List.cons.injEq, and_true]
    omega

theorem hit4 (b0 b1 b2 b3 : Nat) (t : List Nat) (h0 : b0 < 256) (h1 : b1 < 256) (h2 : b2 < 256) (h3 : b3 < 256) : Hit (b0 :: b1 :: b2 :: b3 :: t) 4 ↔ (240 ≤ b0 ∧ b0 ≤ 244 ∧ 128 ≤ b1 ∧ b1 ≤ 191 ∧ 128 ≤ b2 ∧ b2 ≤ 191 ∧ 128 ≤ b3 ∧ b3 ≤ 191 ∧ (b0 = 240 → 144 ≤ b1) ∧ (b0 = 244 → b1 ≤ 143)) := by
  unfold Hit
  rw [cpN4]
  unfold encM encN
  constructor
  · rintro ⟨_, h⟩
    split at h
    · cases h
    · rename_i hn
      unfold noScalar at hn
      simp only [Option.some.injEq, List.take_succ_cons, List.take_zero] at h
      generalize hc : (((b0 : Int) - 240) * 262144 + ((b1 : Int) - 128) * 4096 + ((b2 : Int) - 128) * 64 + ((b3 : Int) - 128)).toNat = n at h
      split at h
      · simp at h
      · split at h
        · simp at h
        · split at h
          · simp at h
          · simp only [List.cons.injEq, and_true] at h
            omega
  · rintro ⟨a1, a2, a3, a4, a5, a6, a7, a8, a9, a10⟩
    refine ⟨by simp, ?_⟩
    rw [if_neg (by unfold noScalar; omega), if_neg (by omega), if_neg (by omega), if_neg (by omega)]
    simp only [Option.some.injEq, List.take_succ_cons, List.take_zero, List.cons.injEq, and_true]
    omega

theorem hit_short {l : List Nat} {n : Nat} (h : l.length < n) : ¬ Hit l n := fun x => by have := x.1; omega

/-- The decoder's table finds what the model's decoder finds: at length n, if no smaller length hits. -/
theorem dec_hit (l : List Nat) (hb : ∀ b ∈ l, b < 256) (n : Nat) (h1 : 1 ≤ n) (h4 : n ≤ 4) (h : Hit l n) : dec l = some ((cpN l n).toNat, n) ∧ 0 ≤ cpN l n := by
  match l, hb with
  | [], _ => exact absurd h (hit_short (by simp; omega))
  | b0 :: t, hb =>
    have h0 : b0 < 256 := hb b0 (by simp)
    match n, h1, h4 with
    | 1, _, _ =>
      rw [hit1 b0 t h0] at h
      rw [cpN1]
      simp [dec, h]
    | 2, _, _ =>
      match t, hb with
      | [], _ => exact absurd h (hit_short (by simp))
      | b1 :: t, hb =>
        rw [hit2 b0 b1 t h0 (hb b1 (by simp))] at h
        rw [cpN2]
        simp only [dec]
        rw [if_neg (by omega), if_neg (by omega), if_pos (by omega)]
        simp only [cont]
        rw [if_neg (by omega)]
        simp only [Option.some.injEq, Prod.mk.injEq, and_true]
        omega
    | 3, _, _ =>
      match t, hb with
      | [], _ => exact absurd h (hit_short (by simp))
      | [b1], _ => exact absurd h (hit_short (by simp))
      | b1 :: b2 :: t, hb =>
        rw [hit3 b0 b1 b2 t h0 (hb b1 (by simp)) (hb b2 (by simp))] at h
        rw [cpN3]
        simp only [dec]
        rw [if_neg (by omega), if_neg (by omega), if_neg (by omega), if_pos (by omega)]
        simp only [cont]
        rw [if_neg (by split <;> split <;> omega), if_neg (by omega)]
        simp only [Option.some.injEq, Prod.mk.injEq, and_true]
        omega
    | 4, _, _ =>
      match t, hb with
      | [], _ => exact absurd h (hit_short (by simp))
      | [b1], _ => exact absurd h (hit_short (by simp))
      | [b1, b2], _ => exact absurd h (hit_short (by simp))
      | b1 :: b2 :: b3 :: t, hb =>
        rw [hit4 b0 b1 b2 b3 t h0 (hb b1 (by simp)) (hb b2 (by simp)) (hb b3 (by simp))] at h
        rw [cpN4]
        simp only [dec]
        rw [if_neg (by omega), if_neg (by omega), if_neg (by omega), if_neg (by omega)]
        simp only [cont]
        rw [if_neg (by split <;> split <;> omega), if_neg (by omega), if_neg (by omega)]
        simp only [Option.some.injEq, Prod.mk.injEq, and_true]
        omega

theorem dec_miss (l : List Nat) (hb : ∀ b ∈ l, b < 256) (h : ∀ n, 1 ≤ n → n ≤ 4 → ¬ Hit l n) : dec l = none := by
  match l, hb with
  | [], _ => rfl
  | b0 :: t, hb =>
    have h0 : b0 < 256 := hb b0 (by simp)
    have n1 := h 1 (by omega) (by omega)
    rw [hit1 b0 t h0] at n1
    simp only [dec]
    rw [if_neg n1]
    split
    · rfl
    · split
      · match t, hb with
        | [], _ => rfl
        | b1 :: t, hb =>
          have n2 := h 2 (by omega) (by omega)
          rw [hit2 b0 b1 t h0 (hb b1 (by simp))] at n2
          simp only [cont]
          rw [if_pos (by omega)]
      · split
        · obtain ⟨lo, hlo⟩ : ∃ lo, (if b0 = 224 then 160 else 128) = lo := ⟨_, rfl⟩
          obtain ⟨hi, hhi⟩ : ∃ hi, (if b0 = 237 then 159 else 191) = hi := ⟨_, rfl⟩
          have fl : (b0 = 224 → lo = 160) ∧ (b0 ≠ 224 → lo = 128) := by rw [← hlo]; constructor <;> intro h <;> simp [h]
          have fh : (b0 = 237 → hi = 159) ∧ (b0 ≠ 237 → hi = 191) := by rw [← hhi]; constructor <;> intro h <;> simp [h]
          rw [hlo, hhi]
          match t, hb with
          | [], _ => rfl
          | [b1], _ => simp only [cont]; split <;> rfl
          | b1 :: b2 :: t, hb =>
            have n3 := h 3 (by omega) (by omega)
            rw [hit3 b0 b1 b2 t h0 (hb b1 (by simp)) (hb b2 (by simp))] at n3
            simp only [cont]
            by_cases hq : b1 < lo ∨ hi < b1
            · rw [if_pos hq]
            · rw [if_neg hq, if_pos (by omega)]
        · obtain ⟨lo, hlo⟩ : ∃ lo, (if b0 = 240 then 144 else 128) = lo := ⟨_, rfl⟩
          obtain ⟨hi, hhi⟩ : ∃ hi, (if b0 = 244 then 143 else 191) = hi := ⟨_, rfl⟩
          have fl : (b0 = 240 → lo = 144) ∧ (b0 ≠ 240 → lo = 128) := by rw [← hlo]; constructor <;> intro h <;> simp [h]
          have fh : (b0 = 244 → hi = 143) ∧ (b0 ≠ 244 → hi = 191) := by rw [← hhi]; constructor <;> intro h <;> simp [h]
          rw [hlo, hhi]
          match t, hb with
          | [], _ => rfl
          | [b1], _ => simp only [cont]; split <;> rfl
          | [b1, b2], _ => simp only [cont]; split <;> (try rfl); split <;> rfl
          | b1 :: b2 :: b3 :: t, hb =>
            have n4 := h 4 (by omega) (by omega)
            rw [hit4 b0 b1 b2 b3 t h0 (hb b1 (by simp)) (hb b2 (by simp)) (hb b3 (by simp))] at n4
            simp only [cont]
            by_cases hq : b1 < lo ∨ hi < b1
            · rw [if_pos hq]
            · by_cases hq2 : b2 < 128 ∨ 191 < b2
              · rw [if_neg hq, if_pos hq2]
              · rw [if_neg hq, if_neg hq2, if_pos (by omega)]

/-- The decoder gives back every encoded scalar value. -/
theorem dec_enc (n : Nat) (h : ¬ noScalar (n : Int)) : dec (encN n) = some (n, (encN n).length) := by
  unfold noScalar at h
  unfold encN
  split
  · rename_i h1; simp [dec, h1]
  · split
    · simp only [dec]
      rw [if_neg (by omega), if_neg (by omega), if_pos (by omega)]
      simp only [cont]
      rw [if_neg (by omega)]
      simp only [Option.some.injEq, Prod.mk.injEq, List.length_cons, List.length_nil, and_true]
      omega
    · split
      · simp only [dec]
        rw [if_neg (by omega), if_neg (by omega), if_neg (by omega), if_pos (by omega)]
        simp only [cont]
        rw [if_neg (by split <;> split <;> omega), if_neg (by omega)]
        simp only [Option.some.injEq, Prod.mk.injEq, List.length_cons, List.length_nil, and_true]
        omega
      · simp only [dec]
        rw [if_neg (by omega), if_neg (by omega), if_neg (by omega), if_neg (by omega)]
        simp only [cont]
        rw [if_neg (by split <;> split <;> omega), if_neg (by omega), if_neg (by omega)]
        simp only [Option.some.injEq, Prod.mk.injEq, List.length_cons, List.length_nil, and_true]
        omega

theorem encN_lt (n : Nat) (h : n ≤ 1114111) : ∀ b ∈ encN n, b < 256 := by
  intro b hb
  unfold encN at hb
  split at hb
  · simp at hb; omega
  · split at hb
    · simp at hb; omega
    · split at hb
      · simp at hb; omega
      · simp at hb; omega

theorem dec_size {l : List Nat} {r n : Nat} (h : dec l = some (r, n)) : 1 ≤ n ∧ n ≤ l.length := by
  have hc : ∀ (k : Nat) (lo hi r0 : Nat) (t : List Nat) (size r n : Nat), cont lo hi r0 k t size = some (r, n) → n = size ∧ k ≤ t.length := by
    intro k
    induction k with
    | zero => intro lo hi r0 t size r n h; simp [cont] at h; exact ⟨h.2.symm, Nat.zero_le _⟩
    | succ k ih =>
      intro lo hi r0 t size r n h
      cases t with
      | nil => simp [cont] at h
      | cons c t =>
        simp only [cont] at h
        split at h
        · cases h
        · obtain ⟨h1, h2⟩ := ih _ _ _ _ _ _ _ h
          exact ⟨h1, by simp; omega⟩
  cases l with
  | nil => simp [dec] at h
  | cons b0 t =>
    simp only [dec] at h
    split at h
    · simp at h; simp; omega
    · split at h
      · cases h
      · split at h
        · obtain ⟨h1, h2⟩ := hc _ _ _ _ _ _ _ _ h; simp; omega
        · split at h
          · obtain ⟨h1, h2⟩ := hc _ _ _ _ _ _ _ _ h; simp; omega
          · obtain ⟨h1, h2⟩ := hc _ _ _ _ _ _ _ _ h; simp; omega

/-- Does the list split into encodings? (n: fuel) -/
def validF : Nat → List Nat → Bool
  | _, [] => true
  | 0, _ => false
  | k + 1, b :: t => match dec (b :: t) with
    | none => false
    | some (_, n) => validF k ((b :: t).drop n)
def valid (l : List Nat) : Bool := validF l.length l

theorem validF_eq : ∀ (k k' : Nat) (l : List Nat), l.length ≤ k → l.length ≤ k' → validF k l = validF k' l
  | _, _, [], _, _ => by simp [validF]
  | 0, _, b :: t, h, _ => by simp at h
  | _, 0, b :: t, _, h => by simp at h
  | k + 1, k' + 1, b :: t, h, h' => by
    simp only [validF]
    split
    · rfl
    · rename_i n hn
      have := dec_size hn
      exact validF_eq k k' _ (by simp at h ⊢; omega) (by simp at h' ⊢; omega)

theorem valid_nil : valid [] = true := rfl
theorem valid_none {l : List Nat} (h : dec l = none) (hl : l ≠ []) : valid l = false := by
  cases l with
  | nil => exact absurd rfl hl
  | cons b t => simp [valid, validF, h]
theorem valid_some {l : List Nat} {r n : Nat} (h : dec l = some (r, n)) : valid l = valid (l.drop n) := by
  cases l with
  | nil => simp [dec] at h
  | cons b t =>
    have := dec_size h
    simp only [valid, List.length_cons, validF, h]
    exact validF_eq _ _ _ (by simp at this ⊢; omega) (Nat.le_refl _)
end Go.Proofs.Qxb6500881a
