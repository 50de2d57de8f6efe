/- The rest of the operations, on the three lists: pins, signs, forgetting. -/
import Derived.Test.Qxb6500892aDoorTqAbs
namespace Go.Proofs.Qxb6500892aDoor
open Go.RowKit
set_option linter.unusedSimpArgs false
set_option linter.unusedVariables false

def bump (i : Nat) (d : Int) (t : TEnt) : TEnt := if t.slot = (i : Int) then { t with pins := t.pins + d } else t
section
variable {s s' : ES} {L L' C C' : Nat → List Nat} {i k : Nat} {B : Bool}
/-- Pin, Unpin -/
theorem PinS.abs {d : Int} (h : PinS i d s s') : (∀ l, Vw s' l = (Vw s l).map (bump i d)) ∧ (∀ L, Gh s' L = Gh s L) := by
  refine ⟨fun l => ?_, fun L => by unfold Gh; rw [h.key]⟩
  unfold Vw
  rw [List.map_map]
  refine List.map_congr_left fun j _ => ?_
  unfold bump Function.comp entOf
  rw [h.key, h.neg, h.pin]
  by_cases e : j = i
  · subst e
    simp [upd_same]
  · have hne : ¬ (j : Int) = (i : Int) := by omega
    simp [upd_ne _ _ e, hne]
/-- SetNegative, where the sign changes -/
theorem MovS.abs (hE : EI s L C) (hw : s.whr i = 1 ∨ s.whr i = 2) (h : MovS i 1 s L s' L') (hn : s'.neg = upd s.neg i B) : Vw s' (L' 1) = { entOf s i with neg := B } :: wout (Vw s (L 1)) i ∧ Vw s' (L' 2) = wout (Vw s (L 2)) i ∧ Gh s' L' = Gh s L := by
  have hl : ∀ p, p = 1 ∨ p = 2 → upd L (s.whr i) ((L (s.whr i)).erase i) p = (L p).filter fun j => decide (j ≠ i) := fun p hp => by
    rw [upd_ev]
    by_cases e : p = s.whr i
    · rw [if_pos e, ← e, erase_ne (hE.nodup (by omega))]
    · rw [if_neg e, filter_absent (hE.notin (by omega) (fun e2 => e e2.symm))]
  have hv : ∀ p, p = 1 ∨ p = 2 → Vw s' ((L p).filter fun j => decide (j ≠ i)) = wout (Vw s (L p)) i := fun p hp => by
    rw [Vw_wout]
    refine Vw_congr fun j hj => ?_
    have hji : j ≠ i := by simpa using (List.mem_filter.1 hj).2
    exact ⟨by rw [h.key], by rw [h.pin], by rw [hn, upd_ne _ _ hji]⟩
  refine ⟨?_, ?_, ?_⟩
  · rw [h.l, upd_same, hl 1 (.inl rfl)]
    show entOf s' i :: Vw s' _ = _
    rw [hv 1 (.inl rfl)]
    congr 1
    unfold entOf
    rw [h.key, h.pin, hn, upd_same]
  · rw [h.l, upd_ne _ _ (by omega), hl 2 (.inr rfl), hv 2 (.inr rfl)]
  · unfold Gh
    rw [h.l, upd_ne _ _ (by omega), upd_ne _ _ (by omega), h.key]
/-- Forget -/
theorem FgS.abs {F : Bool} (hE : EI s L C) (h : FgS k F s L s' L') : F = decide (k ∈ Gh s L) ∧ Gh s' L' = noK (Gh s L) k ∧ ∀ p, p = 1 ∨ p = 2 → Vw s' (L' p) = Vw s (L p) := by
  rcases h with ⟨rfl, hs', hL', hn⟩ | ⟨rfl, g, hk, hd⟩
  · rw [hs', hL']
    have hnk : k ∉ Gh s L := fun hm => by
      obtain ⟨g, hg, hgw, e⟩ := hE.ghMem.1 hm
      exact hn g hg hgw e
    exact ⟨(decide_eq_false hnk).symm, (noK_absent hnk).symm, fun p _ => rfl⟩
  · have hg3 : g ∈ L 3 := by have := hE.q.mem g hd.1 (by rw [hd.2.1]; omega); rw [hd.2.1] at this; exact this
    obtain ⟨b1, b2, _⟩ := hd.abs hE.ghNodup hg3
    have hkG : k ∈ Gh s L := hE.ghMem.2 ⟨g, hd.1, hd.2.1, hk⟩
    exact ⟨(decide_eq_true hkG).symm, by rw [b2, hk], fun p hp => (b1 p hp).1⟩
end
end Go.Proofs.Qxb6500892aDoor
