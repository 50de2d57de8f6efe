/- A phase of the checker under way, with whatever lies beside it. -/
import Derived.Test.Qxb6500883aGreatDoorScCf
namespace Go.Proofs.Qxb6500883aGreatDoor
open Go.RowKit
set_option linter.unusedSimpArgs false
set_option linter.unusedVariables false
/-- What diagnostics leave alone. -/
def Keeps (E : Rl → World → Prop) : Prop := ∀ (ρ : Rl) (w : World) (ρ' : Rl) (w' : World), E ρ w → Fr XD ρ w ρ' w' → E ρ' w'
/-- No error so far just if P; at most B errors; beside them E. -/
structure Ph (E : Rl → World → Prop) (N mg : Nat) (ρ : Rl) (w : World) (l : PL) (bs : List UInt8) (F : FS) (U : FV) (c : Nat) (V : CV) (P : Prop) (B : Nat) (w' : World) : Prop where
  m : ∃ (ρ' : Rl) (v' : Value) (errs : List (Nat × Nat)), CM N mg ρ' w' l bs F U c { V with list := v' } errs ∧ Fr XD ρ w ρ' w' ∧ (errs = [] ↔ P) ∧ errs.length ≤ B ∧ E ρ' w'
section
variable {E E' : Rl → World → Prop} {N mg : Nat} {ρ ρ' : Rl} {w w' w1 w2 : World} {l : PL} {bs : List UInt8} {F : FS} {U : FV} {c n : Nat} {V V' : CV} {errs : List (Nat × Nat)} {v : Value} {P Q : Prop} {B B' : Nat}
theorem Ph.below (h : Ph E N mg ρ w l bs F U c V P B w1) (hE : Keeps E) (hb : Below w1.heap.size w1 w2) : Ph E N mg ρ w l bs F U c V P B w2 := by
  obtain ⟨ρ', v', errs, h1, h2, h3, h4, h5⟩ := h.m
  exact ⟨ρ', v', errs, h1.below hb, h2.trans (Fr.below hb), h3, h4, hE _ _ _ _ h5 (Fr.below hb)⟩
theorem Ph.iff (h : Ph E N mg ρ w l bs F U c V P B w1) (hp : P ↔ Q) (hB : B ≤ B') : Ph E N mg ρ w l bs F U c V Q B' w1 := by
  obtain ⟨ρ', v', errs, h1, h2, h3, h4, h5⟩ := h.m
  exact ⟨ρ', v', errs, h1, h2, h3.trans hp, Nat.le_trans h4 hB, h5⟩
theorem Ph.start (h : CM N mg ρ w l bs F U c V errs) (hB : errs.length ≤ B) (hE : E ρ w) : Ph E N mg ρ w l bs F U c V (errs = []) B w :=
  ⟨ρ, V.list, errs, h, Fr.refl _ _ _, Iff.rfl, hB, hE⟩
/-- An error more. -/
theorem Ph.add {k pos : Nat} {ρ' : Rl} {v' : Value} (h2 : Fr XD ρ w ρ' w1) (hE : Keeps E) (h5 : E ρ' w1) (ha : CAd N mg ρ' w1 l bs F U c { V with list := v' } (errs ++ [(k, pos)]) w2) (hB : errs.length ≤ B) : Ph E N mg ρ w l bs F U c V False (B + 1) w2 := by
  obtain ⟨ρ2, v2, h6, h7⟩ := ha.m
  exact ⟨ρ2, v2, errs ++ [(k, pos)], h6, h2.trans h7, ⟨fun h => by simp at h, fun h => h.elim⟩, by rw [List.length_append, List.length_singleton]; omega, hE _ _ _ _ h5 h7⟩
/-- A phase within a phase. -/
theorem Ph.sub {ρ1 : Rl} {v1 : Value} {errs1 : List (Nat × Nat)} (h2 : Fr XD ρ w ρ1 w1) (hP : errs1 = [] ↔ P) (h : Ph E N mg ρ1 w1 l bs F U c { V with list := v1 } Q B w2) : Ph E N mg ρ w l bs F U c V Q B w2 := by
  obtain ⟨ρ', v', errs, h3, h4, h5, h6, h7⟩ := h.m
  exact ⟨ρ', v', errs, h3, h2.trans h4, h5, h6, h7⟩
/-- The map of the declarations' names (role 17): the first index of each among the first k. -/
def NmM (F : FS) (mB k : Nat) (ρ : Rl) (w : World) : Prop := MG (fun s : ByteArray => Value.string s) w mB (fun s => (fstI F k s).map (fun d => Value.int .i32 (d : Int))) ∧ ρ mB = 17
theorem NmM.keeps {mB k : Nat} : Keeps (NmM F mB k) := fun ρ w ρ' w' h hf => ⟨h.1.of (hf.blk mB h.1.lt (by rw [h.2]; rfl)), by rw [hf.old mB h.1.lt]; exact h.2⟩
theorem Keeps.and (h1 : Keeps E) (h2 : Keeps E') : Keeps (fun ρ w => E ρ w ∧ E' ρ w) := fun ρ w ρ' w' h hf => ⟨h1 _ _ _ _ h.1 hf, h2 _ _ _ _ h.2 hf⟩
end
end Go.Proofs.Qxb6500883aGreatDoor
