/- HolesAreTheFreeLines: the plain side. -/
import Derived.Test.Qxb6500887aGreatAzW
namespace Go.Proofs.Qxb6500887aGreat
open Go.RowKit
set_option linter.unusedSimpArgs false
set_option linter.unusedVariables false
def sumF (f : Nat → Nat) : Nat → Nat
  | 0 => 0
  | n + 1 => sumF f n + f n
theorem sumF_zero {f : Nat → Nat} {a : Nat} : ∀ (n : Nat), a ≤ n → (∀ r, a ≤ r → r < n → f r = 0) → sumF f n = sumF f a
  | 0, h, _ => by rw [show a = 0 by omega]
  | n + 1, h, k => by
    by_cases e : a = n + 1
    · rw [e]
    · show sumF f n + f n = _
      rw [sumF_zero n (by omega) (fun r h1 h2 => k r h1 (by omega)), k n (by omega) (by omega)]
      omega
theorem sumF_congr {f g : Nat → Nat} : ∀ (n : Nat), (∀ r, r < n → f r = g r) → sumF f n = sumF g n
  | 0, _ => rfl
  | n + 1, h => by
    show sumF f n + f n = sumF g n + g n
    rw [sumF_congr n (fun r hr => h r (by omega)), h n (by omega)]
/-- The free lines among the first n from lo on. -/
def frN (P : Nat → Bool) (lo n : Nat) : Nat := cnt (fun i => P (lo + i)) n
theorem frN_no {P : Nat → Bool} {lo a : Nat} : ∀ (n : Nat), a ≤ n → (∀ i, lo + a ≤ i → i < lo + n → P i = false) → frN P lo n = frN P lo a
  | 0, h, _ => by rw [show a = 0 by omega]
  | n + 1, h, k => by
    by_cases e : a = n + 1
    · rw [e]
    · show frN P lo n + (P (lo + n)).toNat = _
      rw [frN_no n (by omega) (fun r h1 h2 => k r h1 (by omega)), k (lo + n) (by omega) (by omega)]
      rfl
theorem frN_all {P : Nat → Bool} {lo a : Nat} : ∀ (n : Nat), a ≤ n → (∀ i, lo + a ≤ i → i < lo + n → P i = true) → frN P lo n = frN P lo a + (n - a)
  | 0, h, _ => by rw [show a = 0 by omega]; rfl
  | n + 1, h, k => by
    by_cases e : a = n + 1
    · rw [e]; omega
    · show frN P lo n + (P (lo + n)).toNat = _
      rw [frN_all n (by omega) (fun r h1 h2 => k r h1 (by omega)), k (lo + n) (by omega) (by omega)]
      show _ + 1 = _
      omega
theorem frN_le (P : Nat → Bool) (lo : Nat) : ∀ n, frN P lo n ≤ n
  | 0 => Nat.le_refl _
  | n + 1 => by
    show frN P lo n + (P (lo + n)).toNat ≤ _
    have := frN_le P lo n
    have : (P (lo + n)).toNat ≤ 1 := by cases P (lo + n) <;> decide
    omega
theorem frN_full {P : Nat → Bool} {lo : Nat} : ∀ n, frN P lo n = n → ∀ i, i < n → P (lo + i) = true
  | 0, _, i, hi => by omega
  | n + 1, h, i, hi => by
    have h' : frN P lo n + (P (lo + n)).toNat = n + 1 := h
    have := frN_le P lo n
    have h1 : (P (lo + n)).toNat ≤ 1 := by cases P (lo + n) <;> decide
    have e : frN P lo n = n := by omega
    by_cases c : i < n
    · exact frN_full n e i c
    · rw [show i = n by omega]
      cases hp : P (lo + n)
      · rw [hp] at h'; simp at h'; omega
      · rfl
/-- The holes found up to a row. -/
structure HlI (P : Nat → Bool) (lo : Nat) (f : Nat → Nat) (row : Nat) : Prop where
  rb : RB P lo (lo + 32) (lo + row)
  run : ∀ r m, r < row → 1 ≤ m → (f r = m ↔ IsRun P lo (lo + 32) (lo + r) m)
  out : ∀ r, row ≤ r → f r = 0
  sum : sumF f row = frN P lo row
theorem HlI.start (P : Nat → Bool) (lo : Nat) : HlI P lo (fun _ => 0) 0 := ⟨RB.start (by omega), fun r m h => (by omega), fun _ _ => rfl, rfl⟩
theorem HlI.le {P : Nat → Bool} {lo : Nat} {f : Nat → Nat} {row : Nat} (h : HlI P lo f row) : row ≤ 32 := by have := h.rb.hhi; omega
/-- The next hole. -/
theorem HlI.step {P : Nat → Bool} {lo : Nat} {f : Nat → Nat} {row s m : Nat} (h : HlI P lo f row) (hz : Zr P (lo + row) (lo + 32) ((lo + s : Nat) : Int) (m : Int)) (hs : row ≤ s) : 1 ≤ m ∧ s + m ≤ 32 ∧ HlI P lo (fup f s m) (s + m) := by
  obtain ⟨h1, h2, h3, h4⟩ := h.rb.run hz
  have hm := h1.m1
  have hh := h1.hhi
  have hzz := hz
  rcases hzz with ⟨e, _⟩ | ⟨k2, m2, e1, e2, g1, g2, g3, g4, g5, g6⟩
  · omega
  have e1' : k2 = lo + s := by omega
  have e2' : m2 = m := by omega
  subst e1' e2'
  have none : ∀ r m', row ≤ r → r < s + m2 → r ≠ s → ¬ IsRun P lo (lo + 32) (lo + r) m' := fun r m' c1 c2 c3 hr => by
    rcases h4 _ _ hr (by omega) with c | ⟨c, _⟩ <;> omega
  refine ⟨hm, by omega, ⟨?_, ?_, ?_, ?_⟩⟩
  · have := h3
    rwa [show lo + s + m2 = lo + (s + m2) by omega] at this
  · intro r m' hr hm'
    unfold fup
    by_cases c : r = s
    · subst c
      rw [if_pos rfl]
      exact ⟨fun e => e ▸ h1, fun e => h1.uniq e⟩
    · rw [if_neg c]
      by_cases c2 : r < row
      · exact h.run r m' c2 hm'
      · rw [h.out r (by omega)]
        exact ⟨fun e => by omega, fun e => absurd e (none r m' (by omega) hr c)⟩
  · intro r hr
    unfold fup
    rw [if_neg (by omega)]
    exact h.out r (by omega)
  · have a1 : sumF (fup f s m2) (s + m2) = sumF (fup f s m2) (s + 1) := sumF_zero (a := s + 1) (s + m2) (by omega) (fun r c1 c2 => by
      unfold fup
      rw [if_neg (by omega)]
      exact h.out r (by omega))
    have a2 : sumF (fup f s m2) (s + 1) = sumF (fup f s m2) s + m2 := by
      show sumF (fup f s m2) s + fup f s m2 s = _
      unfold fup
      rw [if_pos rfl]
    have a3 : sumF (fup f s m2) s = sumF f s := sumF_congr s (fun r hr => by unfold fup; rw [if_neg (by omega)])
    have a4 : sumF f s = sumF f row := sumF_zero s hs (fun r c1 _ => h.out r c1)
    have b1 : frN P lo (s + m2) = frN P lo s + (s + m2 - s) := frN_all (s + m2) (by omega) (fun i c1 c2 => g5 i (by omega) (by omega))
    have b2 : frN P lo s = frN P lo row := frN_no s hs (fun i c1 c2 => g4 i (by omega) (by omega))
    have := h.sum
    omega
/-- No more holes. -/
theorem HlI.done {P : Nat → Bool} {lo : Nat} {f : Nat → Nat} {row : Nat} {l : Int} (h : HlI P lo f row) (hz : Zr P (lo + row) (lo + 32) (-1) l) : HlI P lo f 32 := by
  have hn := h.rb.none hz
  have hle := h.le
  rcases hz with ⟨_, _, g⟩ | ⟨k2, m2, e1, _⟩
  · refine ⟨⟨by omega, by omega, .inr (.inl rfl)⟩, ?_, fun r hr => h.out r (by omega), ?_⟩
    · intro r m hr hm
      by_cases c : r < row
      · exact h.run r m c hm
      · rw [h.out r (by omega)]
        exact ⟨fun e => by omega, fun e => by have := hn _ _ e; omega⟩
    · rw [sumF_zero 32 hle (fun r c1 _ => h.out r c1), frN_no 32 hle (fun i c1 c2 => g i c1 c2), h.sum]
  · omega
theorem HlI.small {P : Nat → Bool} {lo : Nat} {f : Nat → Nat} (h : HlI P lo f 32) (r : Nat) : f r ≤ 32 := by
  by_cases c : r < 32
  · by_cases e : f r = 0
    · omega
    · have := ((h.run r (f r) c (by omega)).1 rfl).hhi
      omega
  · rw [h.out r (by omega)]; omega
theorem HlI.total {P : Nat → Bool} {lo : Nat} {f : Nat → Nat} (h : HlI P lo f 32) : sumF f 32 = frN P lo 32 := h.sum
/-- The largest so far. -/
def BsA (f : Nat → Nat) (k best row : Nat) : Prop := (best = 0 ∧ row = 32 ∧ ∀ r, r < k → f r = 0) ∨ (row < k ∧ f row = best ∧ 1 ≤ best ∧ ∀ r, r < k → f r ≤ best ∧ (r < row → f r < best))
theorem BsA.start (f : Nat → Nat) : BsA f 0 0 32 := .inl ⟨rfl, rfl, fun r hr => (by omega)⟩
theorem BsA.up {f : Nat → Nat} {k best row : Nat} (h : BsA f k best row) (hb : best < f k) : BsA f (k + 1) (f k) k := by
  refine .inr ⟨by omega, rfl, by omega, fun r hr => ?_⟩
  rcases h with ⟨e1, e2, e3⟩ | ⟨e1, e2, e3, e4⟩
  · by_cases c : r = k
    · subst c; exact ⟨Nat.le_refl _, fun c => by omega⟩
    · have := e3 r (by omega); exact ⟨by omega, fun _ => by omega⟩
  · by_cases c : r = k
    · subst c; exact ⟨Nat.le_refl _, fun c => by omega⟩
    · have := (e4 r (by omega)).1; exact ⟨by omega, fun _ => by omega⟩
theorem BsA.keep {f : Nat → Nat} {k best row : Nat} (h : BsA f k best row) (hb : ¬ best < f k) : BsA f (k + 1) best row := by
  rcases h with ⟨e1, e2, e3⟩ | ⟨e1, e2, e3, e4⟩
  · refine .inl ⟨e1, e2, fun r hr => ?_⟩
    by_cases c : r = k
    · subst c; omega
    · exact e3 r (by omega)
  · refine .inr ⟨by omega, e2, e3, fun r hr => ?_⟩
    by_cases c : r = k
    · subst c; exact ⟨by omega, fun c => by omega⟩
    · exact e4 r (by omega)
theorem BsA.long {P : Nat → Bool} {lo : Nat} {f : Nat → Nat} {best row : Nat} {r n : Int} (h : HlI P lo f 32) (hb : BsA f 32 best row) (hl : HoP (LongP P lo (lo + 32)) lo r n) : r = (row : Int) ∧ n = (best : Int) := by
  obtain ⟨s, k, hR, hc⟩ := hl
  rcases hR with ⟨rfl, rfl, hno⟩ | ⟨k1, m1, rfl, rfl, hrun, hmax⟩
  · rcases hb with ⟨e1, e2, e3⟩ | ⟨e1, e2, e3, e4⟩
    · rcases hc with ⟨_, c2, c3⟩ | ⟨c1, _⟩
      · omega
      · omega
    · exact absurd ((h.run row best e1 e3).1 e2) (hno _ _)
  · have hk : k1 = lo + (k1 - lo) := by have := hrun.hlo; omega
    have hk32 : k1 - lo < 32 := by have := hrun.hhi; have := hrun.m1; omega
    rw [hk] at hrun
    have hf := (h.run (k1 - lo) m1 hk32 hrun.m1).2 hrun
    rcases hb with ⟨e1, e2, e3⟩ | ⟨e1, e2, e3, e4⟩
    · have := e3 _ hk32; have := hrun.m1; omega
    · have r1 := hmax _ _ ((h.run row best e1 e3).1 e2)
      have r2 := e4 _ hk32
      have hm1 := hrun.m1
      have : m1 = best := by omega
      have : k1 - lo = row := by
        rcases Nat.lt_trichotomy (k1 - lo) row with c | c | c
        · have := r2.2 c; omega
        · exact c
        · have := r1.2 (by omega); omega
      rcases hc with ⟨c1, c2, c3⟩ | ⟨c1, c2, c3⟩
      · omega
      · constructor <;> omega
/-- The first fitting hole. -/
theorem fit_some {P : Nat → Bool} {lo need : Nat} {f : Nat → Nat} {r n : Int} {row : Nat} (h : HlI P lo f 32) (h1 : 1 ≤ need) (hr : row < 32) (hf : need ≤ f row) (hb : ∀ q, q < row → f q < need) (hl : HoP (FitP P lo (lo + 32) need) lo r n) : r = (row : Int) ∧ n = (f row : Int) := by
  obtain ⟨s, k, hR, hc⟩ := hl
  have hru := (h.run row (f row) hr (by omega)).1 rfl
  rcases hR with ⟨rfl, rfl, hno⟩ | ⟨k1, m1, rfl, rfl, hrun, hge, hmin⟩
  · have := hno _ _ hru; omega
  · have hk : k1 = lo + (k1 - lo) := by have := hrun.hlo; omega
    have hk32 : k1 - lo < 32 := by have := hrun.hhi; have := hrun.m1; omega
    rw [hk] at hrun
    have hfk := (h.run (k1 - lo) m1 hk32 hrun.m1).2 hrun
    have : k1 - lo = row := by
      rcases Nat.lt_trichotomy (k1 - lo) row with c | c | c
      · have := hb _ c; omega
      · exact c
      · have := hmin _ _ hru (by omega); omega
    rcases hc with ⟨c1, c2, c3⟩ | ⟨c1, c2, c3⟩
    · omega
    · subst this
      constructor <;> omega
theorem fit_none {P : Nat → Bool} {lo need : Nat} {f : Nat → Nat} {r n : Int} (h : HlI P lo f 32) (h1 : 1 ≤ need) (hb : ∀ q, q < 32 → f q < need) (hl : HoP (FitP P lo (lo + 32) need) lo r n) : r = 32 ∧ n = 0 := by
  obtain ⟨s, k, hR, hc⟩ := hl
  rcases hR with ⟨rfl, rfl, hno⟩ | ⟨k1, m1, rfl, rfl, hrun, hge, hmin⟩
  · rcases hc with ⟨_, c2, c3⟩ | ⟨c1, _⟩
    · exact ⟨c2, c3⟩
    · omega
  · have hk : k1 = lo + (k1 - lo) := by have := hrun.hlo; omega
    have hk32 : k1 - lo < 32 := by have := hrun.hhi; have := hrun.m1; omega
    rw [hk] at hrun
    have hfk := (h.run (k1 - lo) m1 hk32 hrun.m1).2 hrun
    have := hb _ hk32
    omega
theorem cnt_shift (Q : Nat → Bool) (a : Nat) : ∀ n, cnt Q (a + n) = cnt Q a + cnt (fun i => Q (a + i)) n
  | 0 => rfl
  | n + 1 => by
    show cnt Q (a + n) + (Q (a + n)).toNat = cnt Q a + (cnt (fun i => Q (a + i)) n + (Q (a + n)).toNat)
    rw [cnt_shift Q a n]
    omega
theorem cnt_flip (Q : Nat → Bool) : ∀ n, cnt (fun i => !(Q i)) n + cnt Q n = n
  | 0 => rfl
  | n + 1 => by
    show cnt (fun i => !(Q i)) n + (!(Q n)).toNat + (cnt Q n + (Q n).toNat) = n + 1
    have := cnt_flip Q n
    cases Q n <;> simp <;> omega
/-- The free lines of a block, counted by the arena. -/
theorem free_count (S : AS) {b : Nat} (hb : b < 64) : (32 : Int) - ((usN S b : Nat) : Int) = ((frN (zrP 4 16 S.T) (32 * b) 32 : Nat) : Int) := by
  have e : usN S b = cnt (fun i => !(zrP 4 16 S.T (32 * b + i))) 32 := by
    unfold usN
    obtain ⟨rest, hr⟩ : ∃ rest, 2048 = 32 * b + 32 + rest := ⟨2048 - (32 * b + 32), by omega⟩
    rw [hr, cnt_shift, cnt_shift, cnt_zero (h := 32 * b) (fun i hi => by
      have : inR (32 * b) (32 * b + 32) i = false := by unfold inR; simp <;> omega
      simp [this]), cnt_zero (h := rest) (fun i hi => by
      have : inR (32 * b) (32 * b + 32) (32 * b + 32 + i) = false := by unfold inR; simp <;> omega
      simp [this])]
    rw [Nat.zero_add, Nat.add_zero]
    refine cnt_eq (fun i hi => ?_)
    have : inR (32 * b) (32 * b + 32) (32 * b + i) = true := by unfold inR; simp <;> omega
    simp only [this, Bool.true_and]
    rfl
  have := cnt_flip (fun i => zrP 4 16 S.T (32 * b + i)) 32
  rw [e]
  unfold frN
  omega
theorem allF_one {P : Nat → Bool} {b : Nat} : frN P (32 * b) 32 = 32 ↔ AllF P b 1 := by
  constructor
  · intro h i h1 h2
    have := frN_full 32 h (i - 32 * b) (by omega)
    rwa [show 32 * b + (i - 32 * b) = i by omega] at this
  · intro h
    have := frN_all (P := P) (lo := 32 * b) (a := 0) 32 (by omega) (fun i h1 h2 => h i (by omega) (by omega))
    rw [this]
    rfl
theorem AllF.split {P : Nat → Bool} {b n : Nat} : AllF P b (n + 1) ↔ AllF P b n ∧ AllF P (b + n) 1 := by
  constructor
  · intro h
    exact ⟨fun i h1 h2 => h i h1 (by omega), fun i h1 h2 => h i (by omega) (by omega)⟩
  · rintro ⟨h, k⟩ i h1 h2
    by_cases c : i < 32 * (b + n)
    · exact h i h1 c
    · exact k i (by omega) (by omega)
end Go.Proofs.Qxb6500887aGreat
