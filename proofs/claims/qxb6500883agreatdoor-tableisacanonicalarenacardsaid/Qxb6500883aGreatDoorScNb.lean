/- Sealing: the table's memory. -/
import Derived.Test.Qxb6500883aGreatDoorScNa
namespace Go.Proofs.Qxb6500883aGreatDoor
open Go.RowKit
set_option linter.unusedSimpArgs false
set_option linter.unusedVariables false
/-- The table's cells once it is sealed. -/
def sldV (V : TV) (mf : Nat) : TV := { V with byF := .map (some mf), sh := .map none, un := .map none }
/-- Sealing under way: the map f stands in block mf, new since w. -/
structure SlS (w : World) (τ : Rl) (tB : Nat) (V : TV) (T : TS) (mf : Nat) (f : FK → Option Value) (w' : World) : Prop where
  tb : TbM (fup τ mf 64) w' tB (sldV V mf) T
  mg : MG fkV w' mf f
  nw : w.heap.size ≤ mf
  fr : Fr (fun r => r == 50) τ w (fup τ mf 64) w'
section
variable {w w' w1 : World} {τ : Rl} {tB mf : Nat} {V : TV} {T : TS} {f : FK → Option Value}
theorem SlS.below (h : SlS w τ tB V T mf f w1) (hb : Below w1.heap.size w1 w') : SlS w τ tB V T mf f w' :=
  ⟨h.tb.below hb, h.mg.below hb, h.nw, h.fr.trans (Fr.below hb)⟩
theorem SlS.put (h : SlS w τ tB V T mf f w1) (k : FK) (v : Value) : ∃ w', (Instr.mapUpdate 90 (.map (some mf)) (fkV k) v).run Tryz.prog w1 = .ok () w' ∧ SlS w τ tB V T mf (gup f k (some v)) w' := by
  obtain ⟨w', h1, h2, h3⟩ := h.mg.put (P := Tryz.prog) Tryz.underlying90 keyFK k v
  have hf : Fr (fun r => r == 64) (fup τ mf 64) w1 (fup τ mf 64) w' := Fr.upd h3 (by show (fup τ mf 64 mf == 64) = true; rw [fup_self]; rfl)
  exact ⟨w', h1, ⟨h.tb.fr hf (fun r h5 h6 => by simp; omega), h2, h.nw, ⟨h3.os.trans h.fr.os, h3.tape.trans h.fr.tape, h3.output.trans h.fr.output, Nat.le_trans h.fr.size h3.size, h.fr.old, fun g hg => h.fr.nw g (Nat.le_trans h3.size hg), fun g hg hx => (h3.block g (Nat.lt_of_lt_of_le hg h.fr.size) (by have := h.nw; omega)).trans (h.fr.blk g hg hx)⟩⟩⟩
theorem SlS.start (h : TbM τ w tB V T) (hm : w.heap.size = mf) (hd : ∀ g, τ g ≠ 0 → g < w.heap.size) : SlS w τ tB V T mf (fun _ => none) (((((w.setCell ⟨tB, 7, none⟩ (.map none)).setCell ⟨tB, 8, none⟩ (.map none)).alloc (.map #[] 0))).setCell ⟨tB, 5, none⟩ (.map (some mf))) := by
  have b1 := ((h.b.set 7 (.map none)).set 8 (.map none))
  have f1 : Fr (fun r => r == 50) τ w τ ((w.setCell ⟨tB, 7, none⟩ (.map none)).setCell ⟨tB, 8, none⟩ (.map none)) := (Fr.set (p := ⟨tB, 7, none⟩) _ (by show (τ tB == 50) = true; rw [h.rb]; rfl)).trans (Fr.set (p := ⟨tB, 8, none⟩) _ (by show (τ tB == 50) = true; rw [h.rb]; rfl))
  have hs : ((w.setCell ⟨tB, 7, none⟩ (.map none)).setCell ⟨tB, 8, none⟩ (.map none)).heap.size = mf := by rw [← hm]; simp
  generalize ((w.setCell ⟨tB, 7, none⟩ (.map none)).setCell ⟨tB, 8, none⟩ (.map none)) = wA at b1 f1 hs ⊢
  have f2 := Fr.alloc (fun r => r == 50) τ wA (.map #[] 0) 64
  rw [hs] at f2
  have m2 := MG.new fkV wA hs
  have b2 := b1.below (Below.refl _ _ |>.trans (nbel wA (.map #[] 0)))
  generalize wA.alloc (.map #[] 0) = wB at f2 m2 b2 ⊢
  have hne : tB ≠ mf := by have := h.b.lt; omega
  have hrb : fup τ mf 64 tB = 50 := by rw [fup_ne _ _ hne]; exact h.rb
  have f3 : Fr (fun r => r == 50) (fup τ mf 64) wB (fup τ mf 64) (wB.setCell ⟨tB, 5, none⟩ (.map (some mf))) := Fr.set (p := ⟨tB, 5, none⟩) _ (by show (fup τ mf 64 tB == 50) = true; rw [hrb]; rfl)
  have fA := (f1.trans f2).trans f3
  exact ⟨⟨b2.set 5 (.map (some mf)), hrb, h.t.fr fA rfl, h.f.fr fA rfl, h.o.fr fA rfl, h.d.fr fA rfl⟩, m2.of (f3.blk mf m2.lt (by rw [fup_self]; rfl)), by omega, fA⟩
end
end Go.Proofs.Qxb6500883aGreatDoor
