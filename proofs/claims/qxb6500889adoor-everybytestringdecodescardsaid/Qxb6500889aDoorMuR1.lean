/- Room: all taken words lie below what was ever allotted. -/
import Derived.Test.Qxb6500889aDoorMuK3
import Derived.Test.Qxb6500889aDoorMuP5
namespace Go.Proofs.Qxb6500889aDoor
open Go.RowKit
set_option linter.unusedSimpArgs false
set_option linter.unusedVariables false
theorem scanP_low (tk : Nat → Bool) (words A : Nat) (hw : 1 ≤ words) (hA : A % 2 = 0) (hf : ∀ i, A ≤ i → tk i = false) (hfit : A + words ≤ 32768) :
    ∀ (f i r : Nat), i + f = 32768 → r < words → (i ≤ A ∨ (0 < r ∧ i - A ≤ r)) → ∃ s, scanP tk words f i r = some s ∧ s ≤ A
  | 0, i, r, h1, h2, h3 => by omega
  | f + 1, i, r, h1, h2, h3 => by
    unfold scanP
    have hn : nextRun (tk i) i r ≤ r + 1 := by
      unfold nextRun
      split
      · omega
      · split <;> omega
    have hfr : A ≤ i → nextRun (tk i) i r = r + 1 := fun hi => by
      unfold nextRun
      rw [hf i hi]
      rw [if_neg (by simp), if_pos (by omega)]
    by_cases e : nextRun (tk i) i r = words
    · rw [if_pos e]
      refine ⟨_, rfl, ?_⟩
      rcases Nat.lt_or_ge i A with h | h
      · omega
      · have := hfr h
        omega
    · rw [if_neg e]
      refine scanP_low tk words A hw hA hf hfit f (i + 1) _ (by omega) (by omega) ?_
      rcases Nat.lt_or_ge i A with h | h
      · exact .inl (by omega)
      · have := hfr h
        exact .inr ⟨by omega, by omega⟩
theorem placeP_low {tk : Nat → Bool} {words A : Nat} (hw : 1 ≤ words) (hA : A % 2 = 0) (hf : ∀ i, A ≤ i → tk i = false) (hfit : A + words ≤ 32768) : ∃ s, placeP tk words = some s ∧ s ≤ A :=
  scanP_low tk words A hw hA hf hfit 32768 0 0 (by omega) (by omega) (.inl (by omega))
/-- All taken words lie below what was ever allotted. -/
structure AlB (H : HS) (M : MS) : Prop where
  tk : ∀ i, M.alt ≤ i → H.taken i = false
  ev : M.alt % 2 = 0
section
variable {H H' : HS} {X X' : XS} {M M' : MS} {o : OpP} {z : Rz} {n : Nat} {G : List Nat} {φ : Nat → Nat}
theorem AlB.zero : AlB H0 M0 := ⟨fun i _ => rfl, rfl⟩
theorem AlB.less (h : AlB H M) (ht : ∀ i, H'.taken i = true → H.taken i = true) (ha : M'.alt = M.alt) : AlB H' M' := by
  refine ⟨fun i hi => ?_, by rw [ha]; exact h.ev⟩
  rw [ha] at hi
  cases e : H'.taken i with
  | false => rfl
  | true =>
    have h1 := ht i e
    rw [h.tk i hi] at h1
    cases h1
theorem freed_taken {D : Nat → Bool} {i : Nat} (h : (freed H D).taken i = true) : H.taken i = true := by
  unfold freed at h
  dsimp only at h
  split at h
  · cases h
  · exact h
theorem base_taken {words i : Nat} (h : (baseH H words).taken i = true) : H.taken i = true := by
  unfold baseH at h
  split at h
  · exact h
  · exact freed_taken h
theorem free_taken {a : Nat} {x : Ob} {i : Nat} (h : (freeH H a x).taken i = true) : H.taken i = true := by
  unfold freeH at h
  dsimp only at h
  unfold fillT at h
  split at h
  · cases h
  · exact h
theorem setR_taken {a j v i : Nat} (h : (setR H a j v).taken i = true) : H.taken i = true := by
  unfold setR at h
  split at h <;> exact h
theorem setD_taken {a j v i : Nat} (h : (setD H a j v).taken i = true) : H.taken i = true := by
  unfold setD at h
  split at h <;> exact h
theorem safe_taken {m i : Nat} (h : (safeH H m).taken i = true) : H.taken i = true := by
  unfold safeH at h
  first
    | exact h
    | (split at h <;> exact h)
theorem mSetR_alt (id i v : Nat) : (mSetR M id i v).alt = M.alt := by
  unfold mSetR
  split <;> rfl
theorem mSetD_alt (id i v : Nat) : (mSetD M id i v).alt = M.alt := by
  unfold mSetD
  split <;> rfl
theorem mObj_alt (m : Nat) (id : Nat) (q : MO) : (mObj M m o id q).1.alt = M.alt := by
  unfold mObj
  repeat' split
  all_goals first | rfl | exact mSetR_alt _ _ _ | exact mSetD_alt _ _ _
theorem mPop_alt (m : Nat) : (mPop M m).1.alt = M.alt := by
  unfold mPop
  repeat' split
  all_goals rfl
theorem mDo_alt (r : Bool) (h : ¬ (o.ac < 4 ∧ o.k = 0)) : (mDo M o r).1.alt = M.alt := by
  unfold mDo
  by_cases h7 : 7 ≤ o.ac
  · rw [if_pos h7]
  rw [if_neg h7]
  by_cases h4 : 4 ≤ o.ac
  · rw [if_pos h4]
  rw [if_neg h4, if_neg (by omega)]
  repeat' split
  all_goals first | rfl | exact mPop_alt _ | exact mObj_alt _ _ _
theorem rzR_c (c : Nat) : (rzR c).c = c := rfl
theorem mObj_c8 (m : Nat) (id : Nat) (q : MO) : (mObj M m o id q).2.c ≠ 8 := by
  unfold mObj
  repeat' split
  all_goals (first | (rw [rzR_c]; decide) | (rw [rzA_c]; decide))
theorem mPop_c8 (m : Nat) : (mPop M m).2.c ≠ 8 := by
  unfold mPop
  repeat' split
  all_goals (first | (rw [rzR_c]; decide) | (rw [rzA_c]; decide))
theorem mDo_c8 (r : Bool) (h : ¬ (o.ac < 4 ∧ o.k = 0)) : (mDo M o r).2.c ≠ 8 := by
  unfold mDo
  by_cases h7 : 7 ≤ o.ac
  · rw [if_pos h7]; show (1 : Nat) ≠ 8; decide
  rw [if_neg h7]
  by_cases h4 : 4 ≤ o.ac
  · rw [if_pos h4]; show (0 : Nat) ≠ 8; decide
  rw [if_neg h4, if_neg (by omega)]
  repeat' split
  all_goals first | exact mPop_c8 _ | exact mObj_c8 _ _ _ | (rw [rzR_c]; decide) | (show (0 : Nat) ≠ 8; decide)
/-- A step keeps what is taken below what was allotted; and room lacks only where the request does not fit beside that. -/
theorem AlB.step (h : AlB H M) (hob : OpB o) (hs : DoS H X o H' X' z) (hz : (mDo M o (decide (z.c ≠ 8))).2 = z) : AlB H' (mDo M o (decide (z.c ≠ 8))).1 ∧ (z.c = 8 → 1 ≤ o.a ∧ o.a ≤ 8192 ∧ 32768 < M.alt + wrdM o.a) := by
  by_cases hk : o.ac < 4 ∧ o.k = 0
  · have hal : H' = (alO H X o.ac (numX o.a) (numX o.b)).1 ∧ z = rzA (alO H X o.ac (numX o.a) (numX o.b)).2.2.1 (alO H X o.ac (numX o.a) (numX o.b)).2.2.2 := by
      cases hs
      all_goals first | exact ⟨rfl, rfl⟩ | (exfalso; omega)
    obtain ⟨rfl, rfl⟩ := hal
    have e : ∀ room, mDo M o room = mAlloc M o.ac o.a o.b room := fun room => by
      unfold mDo
      rw [if_neg (by omega), if_neg (by omega), if_pos hk.2]
    rw [e] at hz ⊢
    have ha := numX_of hob.a
    have hbb := numX_of hob.b
    unfold alO at hz ⊢
    by_cases c1 : numX o.a < 1 ∨ 8192 < numX o.a
    · rw [if_pos c1] at hz ⊢
      refine ⟨?_, fun h8 => by rw [rzA_c] at h8; cases h8⟩
      unfold mAlloc
      rw [if_pos (by omega)]
      exact h
    rw [if_neg c1] at hz ⊢
    by_cases c2 : numX o.b < 0 ∨ numX o.a < numX o.b
    · rw [if_pos c2] at hz ⊢
      refine ⟨?_, fun h8 => by rw [rzA_c] at h8; cases h8⟩
      unfold mAlloc
      rw [if_neg (by omega), if_pos (by omega)]
      exact h
    rw [if_neg c2] at hz ⊢
    by_cases c3 : fullB (X.tb o.ac) = true
    · rw [if_pos c3] at hz ⊢
      refine ⟨?_, fun h8 => by rw [rzA_c] at h8; cases h8⟩
      have hc : (mAlloc M o.ac o.a o.b (decide ((rzA 0 11).c ≠ 8))).2.c = 11 := by rw [hz]; rfl
      unfold mAlloc at hc ⊢
      rw [if_neg (by omega), if_neg (by omega)] at hc ⊢
      by_cases hf : mFull M o.ac = true
      · rw [if_pos hf]; exact h
      · rw [if_neg hf, if_neg (by simp [rzA_c])] at hc
        rw [rzA_c] at hc
        cases hc
    rw [if_neg c3] at hz ⊢
    have ea : (numX o.a).toNat = o.a := by omega
    have eb : (numX o.b).toNat = o.b := by omega
    rw [ea, eb] at hz ⊢
    have hbt : ∀ i, M.alt ≤ i → (baseH H (1 + o.a)).taken i = false := fun i hi => by
      cases et : (baseH H (1 + o.a)).taken i with
      | false => rfl
      | true => have h1 := base_taken et; rw [h.tk i hi] at h1; cases h1
    cases hp : placeP (baseH H (1 + o.a)).taken (1 + o.a) with
    | none =>
      rw [hp] at hz
      have hno : 32768 < M.alt + (1 + o.a) := by
        by_cases hfit : M.alt + (1 + o.a) ≤ 32768
        · obtain ⟨s, h1, _⟩ := placeP_low (by omega) h.ev hbt hfit
          rw [hp] at h1
          cases h1
        · omega
      refine ⟨?_, fun _ => ⟨by omega, by omega, by unfold wrdM; omega⟩⟩
      have hal : (mAlloc M o.ac o.a o.b (decide ((rzA 0 8).c ≠ 8))).1.alt = M.alt := by
        unfold mAlloc
        rw [show decide ((rzA 0 8).c ≠ 8) = false from rfl]
        repeat' split
        all_goals first | rfl | contradiction
      exact h.less (fun i hi => base_taken hi) hal
    | some s =>
      rw [hp] at hz
      refine ⟨?_, fun h8 => by rw [rzA_c] at h8; cases h8⟩
      have hsl : s ≤ M.alt := by
        by_cases hfit : M.alt + (1 + o.a) ≤ 32768
        · obtain ⟨s', h1, h2⟩ := placeP_low (by omega) h.ev hbt hfit
          rw [hp] at h1
          cases h1
          exact h2
        · have := placeP_fit hp
          omega
      have hc : (mAlloc M o.ac o.a o.b (decide ((rzA (hN (X.tb o.ac).gen o.ac (X.tb o.ac).ad.length) 0).c ≠ 8))).2.c = 0 := by rw [hz]; rfl
      have hal : (mAlloc M o.ac o.a o.b (decide ((rzA (hN (X.tb o.ac).gen o.ac (X.tb o.ac).ad.length) 0).c ≠ 8))).1.alt = M.alt + wrdM o.a := by
        unfold mAlloc at hc ⊢
        rw [if_neg (by omega), if_neg (by omega)] at hc ⊢
        by_cases hf : mFull M o.ac = true
        · rw [if_pos hf] at hc
          rw [rzR_c] at hc
          cases hc
        · rw [if_neg hf, if_neg (by simp [rzA_c])]
          rfl
      have hwe : wrdM o.a % 2 = 0 ∧ 1 + o.a ≤ wrdM o.a := by unfold wrdM; omega
      refine ⟨fun i hi => ?_, ?_⟩
      · rw [hal] at hi
        show fillT (baseH H (1 + o.a)).taken s (1 + o.a) true i = false
        unfold fillT
        rw [if_neg (by omega)]
        exact hbt i (by omega)
      · rw [hal]
        have := h.ev
        omega
  · have ha := mDo_alt (M := M) (decide (z.c ≠ 8)) hk
    refine ⟨?_, fun h8 => ?_⟩
    · refine h.less (fun i hi => ?_) ha
      cases hs with
      | coll H' h1 h2 h3 =>
        cases h3 with
        | idle _ => exact hi
        | none _ _ => exact hi
        | free a x _ _ _ _ => exact free_taken hi
      | al h1 h2 => exact absurd ⟨h1, h2⟩ hk
      | wf h1 h2 =>
        revert hi
        unfold wrF
        repeat' split
        all_goals first | exact fun hi => hi | exact fun hi => setR_taken hi
      | wd h1 h2 =>
        revert hi
        unfold wrD
        repeat' split
        all_goals first | exact fun hi => hi | exact fun hi => setD_taken hi
      | pu h1 h2 =>
        revert hi
        unfold psR
        repeat' split
        all_goals exact fun hi => hi
      | po h1 h2 =>
        revert hi
        unfold ppR
        repeat' split
        all_goals exact fun hi => hi
      | sf h1 h2 => exact safe_taken hi
      | _ => exact hi
    · have h9 := mDo_c8 (M := M) (decide (z.c ≠ 8)) hk
      rw [hz] at h9
      exact absurd h8 h9
end
end Go.Proofs.Qxb6500889aDoor
