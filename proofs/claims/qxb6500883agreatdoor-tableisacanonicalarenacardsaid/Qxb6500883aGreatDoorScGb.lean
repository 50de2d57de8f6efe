/- Structs as keys. -/
import Derived.Test.Qxb6500883aGreatDoorScGa
import Derived.Laws.StructEq
namespace Go.Proofs.Qxb6500883aGreatDoor
open Go.RowKit
set_option linter.unusedSimpArgs false
set_option linter.unusedVariables false
theorem sk_eq (a b : SK) (w : World) : (Op.equalIn 10000 250 (skV a) (skV b)).run Tryz.prog w = .ok (decide (a = b)) w := by
  obtain ⟨a1, a2, a3⟩ := a
  obtain ⟨b1, b2, b3⟩ := b
  unfold skV
  simp [go_sem, part]
  by_cases h1 : a1 = b1
  · by_cases h2 : a2 = b2
    · by_cases h3 : a3 = b3
      · subst h1 h2 h3; simp
      · have : ¬ ((a3 : Int) = (b3 : Int)) := by omega
        simp [h1, h2, h3, this]
    · simp [h1, h2]
  · have : ¬ ((a1 : Int) = (b1 : Int)) := by omega
    simp [h1, this]
theorem fk_eq (a b : FK) (w : World) : (Op.equalIn 10000 135 (fkV a) (fkV b)).run Tryz.prog w = .ok (decide (a = b)) w := by
  obtain ⟨a1, a2⟩ := a
  obtain ⟨b1, b2⟩ := b
  unfold fkV
  simp [go_sem, part]
  by_cases h1 : a1 = b1
  · by_cases h2 : a2 = b2
    · subst h1 h2; simp
    · have : ¬ (a2.toList = b2.toList) := fun h => h2 (by
        have e := beq_toListBytes a2 b2
        rw [h, ba_beq] at e
        simpa using e)
      simp [h1, h2, this]
  · simp [h1]
theorem keySK : KeyOk Tryz.prog 250 skV := by
  refine KeyOk.struct Tryz.underlying250 (fun a b => rfl) (fun b k w => ?_) (fun a b w => sk_eq a b w) (fun k => ?_)
  · kernel_rfl
  · unfold skV
    simp [Instr.sameBits]
theorem keyFK : KeyOk Tryz.prog 135 fkV := by
  refine KeyOk.struct Tryz.underlying135 (fun a b => rfl) (fun b k w => ?_) (fun a b w => fk_eq a b w) (fun k => ?_)
  · kernel_rfl
  · unfold fkV
    simp [Instr.sameBits, ba_beq]
end Go.Proofs.Qxb6500883aGreatDoor
