/- Least, greatest, count over a table: plain laws. -/
import Derived.Test.Qxb6500884aClRelP
import Derived.Test.Qxb6500884aClStp
namespace Go.Proofs.Qxb6500884a
open Go.RowKit
set_option linter.unusedSimpArgs false
set_option linter.unusedVariables false

def lstA (f : Nat → Bool) : Nat → Int
  | 0 => -1
  | k + 1 => if f k = true then (if lstA f k = -1 then (k : Int) else lstA f k) else lstA f k
def grtA (f : Nat → Bool) : Nat → Int
  | 0 => -1
  | k + 1 => if f k = true then (k : Int) else grtA f k
def cntA (f : Nat → Bool) : Nat → Int
  | 0 => 0
  | k + 1 => if f k = true then cntA f k + 1 else cntA f k
theorem cntA_rng (f : Nat → Bool) : ∀ k, 0 ≤ cntA f k ∧ cntA f k ≤ k
  | 0 => by simp [cntA]
  | k + 1 => by
    have := cntA_rng f k
    unfold cntA
    split <;> omega
theorem lstA_is (f : Nat → Bool) : ∀ k, (lstA f k = -1 ∧ ∀ i, i < k → f i = false) ∨ ∃ i, i < k ∧ lstA f k = (i : Int) ∧ f i = true ∧ ∀ j, j < i → f j = false
  | 0 => .inl ⟨rfl, fun i h => by omega⟩
  | k + 1 => by
    unfold lstA
    rcases lstA_is f k with ⟨h1, h2⟩ | ⟨i, h1, h2, h3, h4⟩
    · cases hf : f k with
      | true =>
        rw [if_pos rfl, if_pos h1]
        exact .inr ⟨k, by omega, rfl, hf, h2⟩
      | false =>
        rw [if_neg (by simp)]
        exact .inl ⟨h1, fun i hi => if e : i = k then e ▸ hf else h2 i (by omega)⟩
    · rw [h2, if_neg (show ¬ ((i : Int) = -1) by omega)]
      refine .inr ⟨i, by omega, ?_, h3, h4⟩
      split <;> rfl
theorem grtA_is (f : Nat → Bool) : ∀ k, (grtA f k = -1 ∧ ∀ i, i < k → f i = false) ∨ ∃ i, i < k ∧ grtA f k = (i : Int) ∧ f i = true ∧ ∀ j, i < j → j < k → f j = false
  | 0 => .inl ⟨rfl, fun i h => by omega⟩
  | k + 1 => by
    unfold grtA
    cases hf : f k with
    | true =>
      rw [if_pos rfl]
      exact .inr ⟨k, by omega, rfl, hf, fun j h1 h2 => by omega⟩
    | false =>
      rw [if_neg (by simp)]
      rcases grtA_is f k with ⟨h1, h2⟩ | ⟨i, h1, h2, h3, h4⟩
      · exact .inl ⟨h1, fun i hi => if e : i = k then e ▸ hf else h2 i (by omega)⟩
      · exact .inr ⟨i, by omega, h2, h3, fun j hj hk => if e : j = k then e ▸ hf else h4 j hj (by omega)⟩
theorem cntA_or (f g : Nat → Bool) (hd : ∀ i, f i = true → g i = false) : ∀ k, cntA (fun i => f i || g i) k = cntA f k + cntA g k
  | 0 => rfl
  | k + 1 => by
    have ih := cntA_or f g hd k
    unfold cntA
    have h1 := hd k
    cases hf : f k <;> cases hg : g k
    · simp [hf, hg, ih]
    · simp [hf, hg, ih]; omega
    · simp [hf, hg, ih]; omega
    · rw [hf, hg] at h1; simp at h1
theorem cntA_iv (a b : Int) (ha : 0 ≤ a) (hab : a ≤ b) : ∀ k : Nat, cntA (fun i => decide (a ≤ (i : Int)) && decide ((i : Int) ≤ b)) k = if (k : Int) ≤ a then 0 else if (k : Int) ≤ b then (k : Int) - a else b - a + 1
  | 0 => by rw [if_pos (by omega)]; rfl
  | k + 1 => by
    have ih := cntA_iv a b ha hab k
    unfold cntA
    rw [ih]
    have hc : ((decide (a ≤ (k : Int)) && decide ((k : Int) ≤ b)) = true) ↔ a ≤ (k : Int) ∧ (k : Int) ≤ b := by simp
    by_cases h : a ≤ (k : Int) ∧ (k : Int) ≤ b
    · rw [if_pos (hc.2 h)]
      repeat' split
      all_goals omega
    · rw [if_neg (fun e => h (hc.1 e))]
      repeat' split
      all_goals omega
theorem cntA_ext {f g : Nat → Bool} : ∀ k, (∀ i, i < k → f i = g i) → cntA f k = cntA g k
  | 0, _ => rfl
  | k + 1, h => by unfold cntA; rw [h k (by omega), cntA_ext k (fun i hi => h i (by omega))]
theorem cntA_false : ∀ k, cntA (fun _ => false) k = 0
  | 0 => rfl
  | k + 1 => by unfold cntA; rw [if_neg (by simp), cntA_false k]
theorem cnt_all : ∀ (l : List (Int × Int)), Nrm l → cntA (fun i => memB l (i : Int)) 196608 = countL l
  | [], _ => by
    rw [show (fun i : Nat => memB [] (i : Int)) = fun _ => false from rfl, cntA_false]
    rfl
  | p :: l, h => by
    have h1 := h.rng p (by simp)
    have h2 : (fun i : Nat => memB (p :: l) (i : Int)) = fun i : Nat => (decide (p.1 ≤ (i : Int)) && decide ((i : Int) ≤ p.2)) || memB l (i : Int) := by
      funext i
      exact memB_cons p l i
    rw [h2, cntA_or _ _ (fun i hi => h.notail (by simp at hi; omega)), cnt_all l h.tail, cntA_iv _ _ h1.1 h1.2.1, if_neg (by omega), if_neg (by omega)]
    unfold countL
    rw [List.map_cons, List.sum_cons]
theorem cntA_zero (f : Nat → Bool) : ∀ k, cntA f k = 0 ↔ ∀ i, i < k → f i = false
  | 0 => by simp [cntA]
  | k + 1 => by
    have h1 := cntA_rng f k
    have ih := cntA_zero f k
    unfold cntA
    cases hf : f k with
    | true =>
      rw [if_pos rfl]
      exact ⟨fun h => by omega, fun h => by have := h k (by omega); rw [hf] at this; cases this⟩
    | false =>
      rw [if_neg (by simp), ih]
      exact ⟨fun h i hi => if e : i = k then e ▸ hf else h i (by omega), fun h i hi => h i (by omega)⟩
theorem cntA_full (f : Nat → Bool) : ∀ k, cntA f k = k ↔ ∀ i, i < k → f i = true
  | 0 => by simp [cntA]
  | k + 1 => by
    have h1 := cntA_rng f k
    have ih := cntA_full f k
    unfold cntA
    cases hf : f k with
    | false =>
      rw [if_neg (by simp)]
      exact ⟨fun h => by omega, fun h => by have := h k (by omega); rw [hf] at this; cases this⟩
    | true =>
      rw [if_pos rfl]
      constructor
      · intro h i hi
        by_cases e : i = k
        · exact e ▸ hf
        · exact ih.1 (by omega) i (by omega)
      · intro h
        rw [ih.2 (fun i hi => h i (by omega))]
        omega
theorem empty_cnt {l : List (Int × Int)} (h : Nrm l) : l.isEmpty = decide (countL l = 0) := by
  cases l with
  | nil => rfl
  | cons p t =>
    have h1 := h.rng p (by simp)
    have h2 := cnt_all _ h
    have h3 := cntA_zero (fun i => memB (p :: t) (i : Int)) 196608
    rw [h2] at h3
    rw [Bool.eq_iff_iff, decide_eq_true_iff, h3]
    constructor
    · intro h; cases h
    · intro h4
      have := h4 p.1.toNat (by omega)
      rw [memB_cons, Int.toNat_of_nonneg h1.1, decide_eq_true (show p.1 ≤ p.1 by omega), decide_eq_true h1.2.1] at this
      cases this
theorem nrm_all : Nrm [(0, 196607)] := ⟨fun q hq => by simp at hq; subst hq; decide, fun i a b ha hb => by
  simp at hb⟩
theorem all_cnt {l : List (Int × Int)} (h : Nrm l) : allB l = decide (countL l = 196608) := by
  have h2 := cnt_all _ h
  have h3 := cntA_full (fun i => memB l (i : Int)) 196608
  rw [h2] at h3
  unfold allB
  rw [Bool.eq_iff_iff, decide_eq_true_iff, decide_eq_true_iff]
  constructor
  · rintro rfl; rfl
  · intro h4
    refine nrm_ext2 h nrm_all (fun x h0 h1 => ?_)
    have h5 := h3.1 h4 x.toNat (by omega)
    rw [Int.toNat_of_nonneg h0] at h5
    rw [h5, memB_cons, decide_eq_true h0, decide_eq_true h1]
    rfl
theorem least_eq {l : List (Int × Int)} (h : Nrm l) (hne : l ≠ []) : lstA (fun i => memB l (i : Int)) 196608 = minL l := by
  cases l with
  | nil => exact absurd rfl hne
  | cons p t =>
    have h1 := h.rng p (by simp)
    have hm : memB (p :: t) p.1 = true := by rw [memB_cons, decide_eq_true (show p.1 ≤ p.1 by omega), decide_eq_true h1.2.1]; rfl
    rcases lstA_is (fun i => memB (p :: t) (i : Int)) 196608 with ⟨_, h3⟩ | ⟨i, h2, h3, h4, h5⟩
    · have := h3 p.1.toNat (by omega)
      rw [Int.toNat_of_nonneg h1.1, hm] at this
      cases this
    · rw [h3]
      show (i : Int) = p.1
      have h6 := h.lowM h4
      by_cases h7 : p.1 < (i : Int)
      · have := h5 p.1.toNat (by omega)
        rw [Int.toNat_of_nonneg h1.1, hm] at this
        cases this
      · omega
theorem memB_of {l : List (Int × Int)} {x : Int} (h : memB l x = true) : ∃ p ∈ l, p.1 ≤ x ∧ x ≤ p.2 := by
  unfold memB at h
  rw [List.any_eq_true] at h
  obtain ⟨p, hp, h⟩ := h
  exact ⟨p, hp, by simpa using h⟩
theorem memB_in {l : List (Int × Int)} {x : Int} {p : Int × Int} (hp : p ∈ l) (h1 : p.1 ≤ x) (h2 : x ≤ p.2) : memB l x = true := by
  unfold memB
  rw [List.any_eq_true]
  exact ⟨p, hp, by simp [h1, h2]⟩
theorem great_eq {l : List (Int × Int)} (h : Nrm l) (hne : l ≠ []) : grtA (fun i => memB l (i : Int)) 196608 = maxL l := by
  obtain ⟨q, hq⟩ : ∃ q, l[l.length - 1]? = some q := ⟨l[l.length - 1]'(by have := List.length_pos_iff.2 hne; omega), by rw [List.getElem?_eq_getElem]⟩
  have hql : q ∈ l := List.mem_of_getElem? hq
  have h1 := h.rng q hql
  have hmx : maxL l = q.2 := by unfold maxL; rw [List.getLast?_eq_getElem?, hq]; rfl
  have hm : memB l q.2 = true := memB_in hql h1.2.1 (Int.le_refl _)
  rw [hmx]
  rcases grtA_is (fun i => memB l (i : Int)) 196608 with ⟨_, h3⟩ | ⟨i, h2, h3, h4, h5⟩
  · have := h3 q.2.toNat (by omega)
    rw [Int.toNat_of_nonneg (by omega), hm] at this
    cases this
  · rw [h3]
    obtain ⟨p, hp, h6, h7⟩ := memB_of h4
    obtain ⟨j, hj⟩ := List.mem_iff_getElem?.1 hp
    have h8 := h.mono (show j ≤ l.length - 1 by have := (List.getElem?_eq_some_iff.1 hj).1; omega) hj hq
    by_cases h9 : (i : Int) < q.2
    · have := h5 q.2.toNat (by omega) (by omega)
      rw [Int.toNat_of_nonneg (by omega), hm] at this
      cases this
    · omega
theorem StepS.isRes {o : COp} {Ls new : List (List (Int × Int))} {r : List Value} (h : StepS o Ls new r) : ∃ p ok v, r = resC p ok v := by
  have hnum : ∀ v ok, ∃ p ok' v', numR v ok = resC p ok' v' := fun v ok => by cases ok <;> exact ⟨_, _, _, rfl⟩
  cases h with
  | none => exact ⟨_, _, _, rfl⟩
  | one => exact ⟨_, _, _, rfl⟩
  | many => exact ⟨_, _, _, rfl⟩
  | ask hne r hq hw =>
    unfold askR at hq
    repeat' split at hq
    all_goals first | (cases hq; exact ⟨_, _, _, rfl⟩) | (cases hq; exact hnum _ _) | cases hq
  | idx => exact hnum _ _
  | other => exact ⟨_, _, _, rfl⟩
end Go.Proofs.Qxb6500884a
