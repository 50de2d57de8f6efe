/- The checker's cells written: CM with one of its values changed. -/
import Derived.Test.Qxb6500883aGreatDoorScCe
namespace Go.Proofs.Qxb6500883aGreatDoor
open Go.RowKit
set_option linter.unusedSimpArgs false
set_option linter.unusedVariables false
section
variable {N mg : Nat} {ρ ρ' : Rl} {w w' w1 w2 : World} {l : PL} {bs : List UInt8} {F : FS} {U : FV} {c n : Nat} {V V' : CV} {errs : List (Nat × Nat)} {v : Value}
/-- A cell of the checker is written (not the list of errors). -/
theorem CM.setC (h : CM N mg ρ w l bs F U c V errs) (k : Nat) (v : Value) (hl : V'.list = V.list) (hc : chC l V' = (chC l V).set k v) : CM N mg ρ (w.setCell ⟨c, k, none⟩ v) l bs F U c V' errs ∧ Fr XD ρ w ρ (w.setCell ⟨c, k, none⟩ v) := by
  have hf : Fr (fun r => r == 11) ρ w ρ (w.setCell ⟨c, k, none⟩ v) := Fr.set _ (by show (ρ c == 11) = true; rw [h.rc]; rfl)
  refine ⟨⟨h.r.fr hf (fun r hr => by simp; omega) rfl, hf.keep h.fb h.r.rf rfl, h.fr.fr hf (fun r _ hr => by simp; omega), ?_, h.rc, ?_⟩, hf.mono (fun r hr => by simp at hr; subst hr; rfl)⟩
  · rw [hc]
    exact h.cb.set k v
  · rw [hl]
    exact h.dg.fr hf rfl rfl
theorem CM.setByN (h : CM N mg ρ w l bs F U c V errs) (v : Value) : CM N mg ρ (w.setCell ⟨c, 3, none⟩ v) l bs F U c { V with byN := v } errs ∧ Fr XD ρ w ρ (w.setCell ⟨c, 3, none⟩ v) := h.setC 3 v rfl rfl
theorem CM.setTD (h : CM N mg ρ w l bs F U c V errs) (v : Value) : CM N mg ρ (w.setCell ⟨c, 4, none⟩ v) l bs F U c { V with tD := v } errs ∧ Fr XD ρ w ρ (w.setCell ⟨c, 4, none⟩ v) := h.setC 4 v rfl rfl
theorem CM.setED (h : CM N mg ρ w l bs F U c V errs) (v : Value) : CM N mg ρ (w.setCell ⟨c, 5, none⟩ v) l bs F U c { V with eD := v } errs ∧ Fr XD ρ w ρ (w.setCell ⟨c, 5, none⟩ v) := h.setC 5 v rfl rfl
theorem CM.setOrd (h : CM N mg ρ w l bs F U c V errs) (v : Value) : CM N mg ρ (w.setCell ⟨c, 6, none⟩ v) l bs F U c { V with ord := v } errs ∧ Fr XD ρ w ρ (w.setCell ⟨c, 6, none⟩ v) := h.setC 6 v rfl rfl
theorem CM.setEV (h : CM N mg ρ w l bs F U c V errs) (v : Value) : CM N mg ρ (w.setCell ⟨c, 7, none⟩ v) l bs F U c { V with eV := v } errs ∧ Fr XD ρ w ρ (w.setCell ⟨c, 7, none⟩ v) := h.setC 7 v rfl rfl
theorem CM.setEO (h : CM N mg ρ w l bs F U c V errs) (v : Value) : CM N mg ρ (w.setCell ⟨c, 8, none⟩ v) l bs F U c { V with eO := v } errs ∧ Fr XD ρ w ρ (w.setCell ⟨c, 8, none⟩ v) := h.setC 8 v rfl rfl
/-- A new block gets a role. -/
theorem CM.role {o : Obj} (h : CM N mg ρ w l bs F U c V errs) (r : Nat) : CM N mg (fup ρ w.heap.size r) (w.alloc o) l bs F U c V errs ∧ Fr XD ρ w (fup ρ w.heap.size r) (w.alloc o) :=
  ⟨h.frame (Fr.alloc (fun _ => false) ρ w o r) (fun _ _ _ => rfl), Fr.alloc XD ρ w o r⟩
end
end Go.Proofs.Qxb6500883aGreatDoor
