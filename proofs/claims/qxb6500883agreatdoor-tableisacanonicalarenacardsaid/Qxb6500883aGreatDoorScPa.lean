/- The built table, plainly: its records are structures with no measures yet. -/
import Derived.Test.Qxb6500883aGreatDoorScNc
namespace Go.Proofs.Qxb6500883aGreatDoor
open Go.RowKit
set_option linter.unusedSimpArgs false
set_option linter.unusedVariables false
theorem RecOk.str {T : TS} {i : Nat} {x : TR} (h : RecOk T i x) (hne : x.kind = 7 ∨ x.kind = 8 → x.lo < x.hi) : StrOk T i x := by
  cases h with
  | ser h1 h2 h3 h4 => exact .ser h1 h2 h3
  | bit h1 h2 h3 => exact .bit h1 h2
  | @con nm lo hi h1 h2 h3 =>
    refine .con rfl (hne (.inl rfl)) h2 (fun f hf => ?_)
    have hf : f ∈ (T.flds.drop lo).take (hi - lo) := hf
    obtain ⟨j, hj, he⟩ := List.mem_take_iff_getElem.1 hf
    rw [List.length_drop] at hj
    rw [List.getElem_drop] at he
    exact h3 (lo + j) f (by omega) (by omega) (by rw [List.getElem?_eq_getElem (by omega), he])
  | @uni lo ids h1 h2 h3 =>
    refine .uni rfl (hne (.inr rfl)) h1 (fun o ho => ?_)
    have ho : o ∈ (T.opts.drop lo).take (lo + ids.length - lo) := ho
    rw [Nat.add_sub_cancel_left, h2] at ho
    exact h3 o ho
theorem RecOk.zero {T : TS} {i : Nat} {x : TR} (h : RecOk T i x) : x.fixed = false ∧ x.size = 0 ∧ x.mn = 0 ∧ x.mx = 0 ∧ x.depth = 0 ∧ x.kind < 256 ∧ x.length < 18446744073709551616 := by
  cases h with
  | ser h1 h2 h3 h4 => exact ⟨rfl, rfl, rfl, rfl, rfl, by show (_ : SK).kind < 256; omega, h4⟩
  | bit h1 h2 h3 => exact ⟨rfl, rfl, rfl, rfl, rfl, by show (_ : SK).kind < 256; omega, h3⟩
  | con h1 h2 h3 => exact ⟨rfl, rfl, rfl, rfl, rfl, by show 7 < 256; decide, by show 0 < 18446744073709551616; decide⟩
  | uni h1 h2 h3 => exact ⟨rfl, rfl, rfl, rfl, rfl, by show 8 < 256; decide, by show 0 < 18446744073709551616; decide⟩
theorem RecOk.trb {T : TS} {i : Nat} {x : TR} (h : RecOk T i x) : TRb x := by
  obtain ⟨_, h2, h3, h4, h5, h6, h7⟩ := h.zero
  exact ⟨by omega, by omega, by omega, by omega, h7, h6, by omega⟩
theorem RecOk.chunks {T : TS} {i : Nat} {x : TR} (h : RecOk T i x) : x.chunks = 0 := by
  cases h <;> rfl
theorem biR_chunks : ∀ i, i < 8 → (biR i).chunks ≤ 2 ^ (biR i).depth := fun i hi => by
  have : i = 0 ∨ i = 1 ∨ i = 2 ∨ i = 3 ∨ i = 4 ∨ i = 5 ∨ i = 6 ∨ i = 7 := by omega
  rcases this with rfl | rfl | rfl | rfl | rfl | rfl | rfl | rfl <;> decide
theorem biR_trb : ∀ i, i < 8 → TRb (biR i) := fun i hi => by
  have : i = 0 ∨ i = 1 ∨ i = 2 ∨ i = 3 ∨ i = 4 ∨ i = 5 ∨ i = 6 ∨ i = 7 := by omega
  rcases this with rfl | rfl | rfl | rfl | rfl | rfl | rfl | rfl <;> exact ⟨by decide, by decide, by decide, by decide, by decide, by decide, by decide⟩
theorem biR_fix : ∀ i, i < 8 → (biR i).fixed = true ∧ (biR i).size = (biR i).mn ∧ (biR i).mn = (biR i).mx ∧ (biR i).kind < 3 := fun i hi => by
  have : i = 0 ∨ i = 1 ∨ i = 2 ∨ i = 3 ∨ i = 4 ∨ i = 5 ∨ i = 6 ∨ i = 7 := by omega
  rcases this with rfl | rfl | rfl | rfl | rfl | rfl | rfl | rfl <;> exact ⟨by decide, by decide, by decide, by decide⟩
theorem TI.allB {B : BS} (h : TI B) : AllB B.T := by
  have hc : ∀ y ∈ B.T.types, (∃ i, i < 8 ∧ y = biR i) ∨ ∃ i, RecOk B.T i y := fun y hy => by
    obtain ⟨i, hi⟩ := List.mem_iff_getElem?.1 hy
    by_cases h8 : i < 8
    · refine .inl ⟨i, h8, ?_⟩
      rw [h.hd i h8] at hi
      exact (Option.some.inj hi).symm
    · exact .inr ⟨i, h.ty i y (by omega) hi⟩
  refine ⟨fun y hy => ?_, fun y hy hf => ?_, fun y hy hf => ?_, fun y hy => ?_⟩
  · rcases hc y hy with ⟨i, hi, rfl⟩ | ⟨i, hr⟩
    · exact biR_trb i hi
    · exact hr.trb
  · rcases hc y hy with ⟨i, hi, rfl⟩ | ⟨i, hr⟩
    · exact ⟨(biR_fix i hi).2.1, (biR_fix i hi).2.2.1⟩
    · rw [hr.zero.1] at hf; cases hf
  · rcases hc y hy with ⟨i, hi, rfl⟩ | ⟨i, hr⟩
    · rw [(biR_fix i hi).1] at hf; cases hf
    · exact hr.zero.2.1
  · rcases hc y hy with ⟨i, hi, rfl⟩ | ⟨i, hr⟩
    · exact biR_chunks i hi
    · rw [hr.chunks]; exact Nat.zero_le _
theorem TI.zs {B : BS} (h : TI B) (i : Nat) (x : TR) (h8 : 8 ≤ i) (hx : B.T.types[i]? = some x) : x.size = 0 := (h.ty i x h8 hx).zero.2.1
end Go.Proofs.Qxb6500883aGreatDoor
