/- Remove, Evict, Pin, Unpin, Touch. -/
import Derived.Test.Qxb6500892aTqEnt2
namespace Go.Proofs.Qxb6500892a
open Go.RowKit
set_option linter.unusedSimpArgs false
set_option linter.unusedVariables false

/-- The error number, and what was done. -/
def Rtn (c : Nat) : Ending := .returned (.int .u8 (c : Int))
theorem idleC_0 {s : ES} {L C : Nat → List Nat} (h : EI s L C) {x : Int} (hx : idleC s x = 0) : ∃ i : Nat, x = (i : Int) ∧ i < s.slots ∧ (s.whr i = 1 ∨ s.whr i = 2) ∧ s.pin i = 0 := by
  unfold idleC at hx
  split at hx
  · cases hx
  · rename_i hn
    obtain ⟨i, rfl, hi, hw⟩ := liveC_0 hx
    rw [Int.toNat_natCast] at hn
    have h1 := h.slot i hi
    have h2 := (h.pn i (by rw [h.nn]; omega)).1
    exact ⟨i, rfl, hi, by omega, by
      have : ¬ 0 < s.pin i := fun h3 => hn ⟨hx, h3⟩
      omega⟩
theorem liveC_live {s : ES} {L C : Nat → List Nat} (h : EI s L C) {x : Int} (hx : liveC s x = 0) : ∃ i : Nat, x = (i : Int) ∧ i < s.slots ∧ (s.whr i = 1 ∨ s.whr i = 2) := by
  obtain ⟨i, rfl, hi, hw⟩ := liveC_0 hx
  have h1 := h.slot i hi
  exact ⟨i, rfl, hi, by omega⟩
theorem EI.sn {s : ES} {L C : Nat → List Nat} (h : EI s L C) : s.slots ≤ s.n := by rw [h.nn]; omega
section
variable {e gn gb : Nat} {w0 : World} {s : ES} {L C : Nat → List Nat} {w : World}
end
/-- What a pin does: d is 1 or -1. -/
structure PinS (i : Nat) (d : Int) (s s' : ES) : Prop where
  cf : Cf s s'
  whr : s'.whr = s.whr
  key : s'.key = s.key
  neg : s'.neg = s.neg
  negs : s'.negs = s.negs
  pin : s'.pin = upd s.pin i (s.pin i + d)
section
variable {s s' : ES} {L C : Nat → List Nat}
theorem count_pin (h : EI s L C) {i : Nat} (hi : i < s.slots) (hw : s.whr i = 1 ∨ s.whr i = 2) (v : Int) : (((L 1 ++ L 2).countP (fun j => decide (upd s.pin i v j ≠ 0)) : Nat) : Int) = ((L 1 ++ L 2).countP (fun j => decide (s.pin j ≠ 0)) : Int) - (if s.pin i ≠ 0 then 1 else 0) + (if v ≠ 0 then 1 else 0) := by
  have hin : i < s.n := by rw [h.nn]; omega
  have hm : i ∈ L 1 ++ L 2 := by
    have := h.q.mem i hin (by omega)
    rcases hw with e | e <;> rw [e] at this <;> simp [this]
  have hnd : (L 1 ++ L 2).Nodup := by
    rw [List.nodup_append]
    refine ⟨(h.q.dl 1 (by omega)).nd, (h.q.dl 2 (by omega)).nd, fun a ha b hb e => ?_⟩
    subst e
    have h1 := h.wh (q := 1) (by omega) ha
    have h2 := h.wh (q := 2) (by omega) hb
    omega
  rw [countP_erase' (p := fun j => decide (upd s.pin i v j ≠ 0)) hm, countP_erase' (p := fun j => decide (s.pin j ≠ 0)) hm, countP_congr' (p := fun j => decide (upd s.pin i v j ≠ 0)) (p' := fun j => decide (s.pin j ≠ 0)) (fun j hj => by
    rw [upd_ne _ _ (fun e => by subst e; exact ((List.Nodup.mem_erase_iff hnd).1 hj).1 rfl)])]
  rw [upd_same]
  by_cases h1 : s.pin i = 0 <;> by_cases h2 : v = 0 <;> simp [h1, h2]
  all_goals omega
theorem EI.pins (h : EI s L C) {i : Nat} (hi : i < s.slots) (hw : s.whr i = 1 ∨ s.whr i = 2) {v p : Int} (hv : 0 ≤ v) (hp : p = s.pinned - (if s.pin i ≠ 0 then 1 else 0) + (if v ≠ 0 then 1 else 0)) : EI { s with pin := upd s.pin i v, pinned := p } L C := by
  refine ⟨h.q.of rfl rfl rfl rfl rfl rfl rfl, h.c.of rfl rfl rfl rfl rfl (fun _ _ => rfl), h.nn, h.s1, h.slot, h.gho, h.uq, fun j hj => ?_, h.ng, h.negs, ?_, h.gl⟩
  · show 0 ≤ upd s.pin i v j ∧ (upd s.pin i v j ≠ 0 → _)
    rw [upd_ev]
    split
    · rename_i e
      subst e
      exact ⟨hv, fun _ => hw⟩
    · exact h.pn j hj
  · show p = (((L 1 ++ L 2).countP fun j => decide (upd s.pin i v j ≠ 0) : Nat) : Int)
    rw [count_pin h hi hw, ← h.pinned, hp]
theorem EI.pinnedB (h : EI s L C) : 0 ≤ s.pinned ∧ s.pinned ≤ 1000000 := by
  rw [h.pinned]
  have h1 := List.countP_le_length (p := fun i => decide (s.pin i ≠ 0)) (l := L 1 ++ L 2)
  rw [List.length_append] at h1
  have h2 := h.q.len (q := 1) (by omega)
  have h3 := h.q.len (q := 2) (by omega)
  have h4 := h.q.nb
  omega
end
section
variable {e gn gb : Nat} {w0 : World} {s : ES} {L C : Nat → List Nat} {w : World}
end
end Go.Proofs.Qxb6500892a
