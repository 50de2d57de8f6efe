/- One more node: what an append to one of the file's rows leaves. -/
import Derived.Test.Qxb6500883aGreatDoorScV
namespace Go.Proofs.Qxb6500883aGreatDoor
open Go.RowKit
set_option linter.unusedSimpArgs false
set_option linter.unusedVariables false
theorem quiet_loadO {P : Program} {C : World → Prop} {K : Act → Prop} {a : Act} {o : Oper} (ty : TypeId) (x : Operand) (ho : o.op = .load ty x) (ad : Addr)
    (hx : a.eval x = .pointer (some ad)) (v : Value) (hr : ∀ w, C w → (Instr.loadAt ty (.pointer (some ad))).run P w = .ok v w) (h : K (a.put o.dst v)) : o.quiet P a C K := by
  refine ⟨v, fun w hC => ?_, h⟩
  have e : (execOp a.eval o).run P w = .ok (.value v) w := by simp [execOp, ho, hx, hr w hC]
  unfold Oper.quietAt
  rw [e]
  exact ⟨rfl, rfl⟩
/-- Roles that the file's methods write. -/
def X8 (r : Nat) : Bool := decide (2 ≤ r) && decide (r ≤ 8) && (r != 7)
theorem X8_X7 : ∀ c, X8 c = true → X7 c = true := fun c h => by unfold X8 at h; unfold X7; simp at h ⊢; omega
section
variable {N mg : Nat} {ρ ρ' : Rl} {w w' w1 w2 : World} {l : PL} {bs : List UInt8} {F F' : FS} {V V' : FV}
/-- One row has grown, and the file's block tells of it. -/
theorem PR.grow {r : Nat} (h : PR N mg ρ w l bs F) (hV : Blk w l.f 109 (flC l V)) (hf : Fr (fun c => c == r) ρ w ρ' w') (h2 : 2 ≤ r) (h6 : r ≤ 6) (v : Value) (j : Nat) (hj : (flC l V).set j v = flC l V') (hR : FRw ρ' w' V' F') :
    PR N mg ρ' (w'.setCell ⟨l.f, j, none⟩ v) l bs F' ∧ Fr X8 ρ w ρ' (w'.setCell ⟨l.f, j, none⟩ v) ∧ Blk (w'.setCell ⟨l.f, j, none⟩ v) l.f 109 (flC l V') := by
  have hr0 : ∀ c, c ≠ r → (fun c => c == r) c = false := fun c hc => by show (c == r) = false; simp; exact hc
  obtain ⟨h1, h2', h3, h4, h5, h6', h7⟩ := h.base hf (hr0 0 (by omega))
  have hk : Blk w' l.f 109 (flC l V) := hf.keep hV h.rf (hr0 8 (by omega))
  have hf2 : Fr (fun c => c == 8) ρ' w' ρ' (w'.setCell ⟨l.f, j, none⟩ v) := Fr.set _ (by show (ρ' l.f == 8) = true; rw [h4]; rfl)
  have hk2 := hk.set j v
  rw [hj] at hk2
  have hz : w'.heap.size ≤ (w'.setCell ⟨l.f, j, none⟩ v).heap.size := hf2.size
  refine ⟨⟨h1.of hz (fun ad ha hl => hf2.blk _ hl (by rw [h5 ad ha]; rfl)), h2'.below (hf2.toBelow h2'.sz h6' rfl), ⟨V', hk2, hR.fr hf2 (fun c hc1 hc2 => by show (c == 8) = false; simp; omega)⟩, h3, h4, h5, h6', fun g hg => Nat.lt_of_lt_of_le (h7 g hg) hz⟩, (hf.mono (fun c hc => by simp at hc; subst hc; unfold X8; simp; omega)).trans (hf2.mono (fun c hc => by simp at hc; subst hc; rfl)), hk2⟩
def FS.addT (F : FS) (x : TN) : FS := { F with types := F.types ++ [x] }
def FS.addE (F : FS) (x : EN) : FS := { F with exprs := F.exprs ++ [x] }
def FS.addF (F : FS) (x : FN) : FS := { F with fields := F.fields ++ [x] }
def FS.addD (F : FS) (x : DN) : FS := { F with decls := F.decls ++ [x] }
def FS.addO (F : FS) (x : List Nat) : FS := { F with opts := F.opts ++ x }
theorem FRw.putT {v : Value} {xs : List TN} (h : FRw ρ w V F) (hf : Fr (fun c => c == 3) ρ w ρ' w') (hr : RowX rtT w' ρ' 3 v xs) : FRw ρ' w' { V with t := v } { F with types := xs } :=
  ⟨h.d.fr hf rfl, hr, h.e.fr hf rfl, h.f.fr hf rfl, h.o.fr hf rfl⟩
theorem FRw.putE {v : Value} {xs : List EN} (h : FRw ρ w V F) (hf : Fr (fun c => c == 4) ρ w ρ' w') (hr : RowX rtE w' ρ' 4 v xs) : FRw ρ' w' { V with e := v } { F with exprs := xs } :=
  ⟨h.d.fr hf rfl, h.t.fr hf rfl, hr, h.f.fr hf rfl, h.o.fr hf rfl⟩
theorem FRw.putF {v : Value} {xs : List FN} (h : FRw ρ w V F) (hf : Fr (fun c => c == 5) ρ w ρ' w') (hr : RowX rtF w' ρ' 5 v xs) : FRw ρ' w' { V with f := v } { F with fields := xs } :=
  ⟨h.d.fr hf rfl, h.t.fr hf rfl, h.e.fr hf rfl, hr, h.o.fr hf rfl⟩
theorem FRw.putD {v : Value} {xs : List DN} (h : FRw ρ w V F) (hf : Fr (fun c => c == 2) ρ w ρ' w') (hr : RowX rtD w' ρ' 2 v xs) : FRw ρ' w' { V with d := v } { F with decls := xs } :=
  ⟨hr, h.t.fr hf rfl, h.e.fr hf rfl, h.f.fr hf rfl, h.o.fr hf rfl⟩
theorem FRw.putO {v : Value} {xs : List Nat} (h : FRw ρ w V F) (hf : Fr (fun c => c == 6) ρ w ρ' w') (hr : RowX rtO w' ρ' 6 v xs) : FRw ρ' w' { V with o := v } { F with opts := xs } :=
  ⟨h.d.fr hf rfl, h.t.fr hf rfl, h.e.fr hf rfl, h.f.fr hf rfl, hr⟩
end
end Go.Proofs.Qxb6500883aGreatDoor
