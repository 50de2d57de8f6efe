/- Blocks of the call's own that are written: what a block holds as a list of cells; worlds that differ in one block and in new ones. Nothing here speaks of one program. -/
import Derived.Test.Qxb6500883aGreatDoorMem
import Derived.Test.Qxb6500883aGreatDoorDrew
import Derived.WalkKit
namespace Go.Proofs.Qxb6500883aGreatDoor
open Go.RowKit
set_option linter.unusedSimpArgs false
set_option linter.unusedVariables false

/-- Block g holds just these cells, none of them frozen. -/
def Blk (w : World) (g : Nat) (t : TypeId) (cs : List Value) : Prop := w.heap[g]? = some (.cells cs.toArray t (0, 0))

/-- w' is w with new blocks, and with writes to block g alone. -/
structure Upd (g : Nat) (w w' : World) : Prop where
  os : w'.os = w.os
  tape : w'.tape = w.tape
  output : w'.output = w.output
  size : w.heap.size ≤ w'.heap.size
  block : ∀ k, k < w.heap.size → k ≠ g → w'.heap[k]? = w.heap[k]?

theorem Upd.refl (g : Nat) (w : World) : Upd g w w := ⟨rfl, rfl, rfl, Nat.le_refl _, fun _ _ _ => rfl⟩
theorem Upd.trans {g : Nat} {a b c : World} (h : Upd g a b) (k : Upd g b c) : Upd g a c :=
  ⟨k.os.trans h.os, k.tape.trans h.tape, k.output.trans h.output, Nat.le_trans h.size k.size, fun i hi hg => (k.block i (Nat.lt_of_lt_of_le hi h.size) hg).trans (h.block i hi hg)⟩
theorem Upd.setCell {g : Nat} {a w : World} (h : Upd g a w) {p : Addr} (hp : p.block = g) (u : Value) : Upd g a (w.setCell p u) :=
  h.trans ⟨rfl, rfl, rfl, by simp [World.setCell], fun k _ hg => Below.heap_setCell _ _ _ _ (by omega)⟩
theorem Upd.alloc {g : Nat} {a w : World} (h : Upd g a w) (o : Obj) : Upd g a (w.alloc o) :=
  h.trans ⟨rfl, rfl, rfl, by simp, fun k hk _ => Below.heap_alloc _ _ _ hk⟩
theorem Upd.ofBelow {g : Nat} {a w w' : World} (h : Upd g a w) (hb : Below w.heap.size w w') : Upd g a w' :=
  h.trans ⟨hb.os, hb.tape, hb.output, hb.size, fun k hk _ => hb.block k hk⟩
theorem Upd.drewN {g : Nat} {a w : World} (h : Upd g a w) (n : Nat) : Upd g a (w.drewN n) := h.trans ⟨rfl, rfl, rfl, Nat.le_refl _, fun _ _ _ => rfl⟩
theorem Upd.drew {g : Nat} {a w w' : World} (h : Upd g a w) (hd : Drew w w') : Upd g a w' := h.ofBelow (hd.below _)
theorem Upd.below {g B : Nat} {w w' : World} (h : Upd g w w') (hg : B ≤ g) (hB : B ≤ w.heap.size) : Below B w w' :=
  ⟨h.os, h.tape, h.output, h.size, fun k hk => h.block k (by omega) (by omega)⟩

theorem Blk.lt {w : World} {g : Nat} {t : TypeId} {cs : List Value} (h : Blk w g t cs) : g < w.heap.size := (Array.getElem?_eq_some_iff.1 h).1
theorem Blk.cell {w : World} {g : Nat} {t : TypeId} {cs : List Value} (h : Blk w g t cs) (i : Nat) : w.cell? ⟨g, i, none⟩ = cs[i]? := by
  have h' : w.heap[g]? = some (.cells cs.toArray t (0, 0)) := h
  simp [World.cell?, h']
theorem Blk.frozen {w : World} {g : Nat} {t : TypeId} {cs : List Value} (h : Blk w g t cs) (i : Nat) : w.frozen? ⟨g, i, none⟩ = false := by
  have h' : w.heap[g]? = some (.cells cs.toArray t (0, 0)) := h
  simp [World.frozen?, h']
theorem Blk.set {w : World} {g : Nat} {t : TypeId} {cs : List Value} (h : Blk w g t cs) (i : Nat) (v : Value) : Blk (w.setCell ⟨g, i, none⟩ v) g t (cs.set i v) := by
  have h' : w.heap[g]? = some (.cells cs.toArray t (0, 0)) := h
  unfold Blk World.setCell
  simp only [Array.getElem?_modify, if_true, h', Option.map_some]
  simp
theorem Blk.setOther {w : World} {g : Nat} {t : TypeId} {cs : List Value} (h : Blk w g t cs) {p : Addr} (hp : p.block ≠ g) (v : Value) : Blk (w.setCell p v) g t cs := by
  unfold Blk
  rw [Below.heap_setCell _ _ _ _ (by omega)]
  exact h
theorem Blk.upd {w w' : World} {g g' : Nat} {t : TypeId} {cs : List Value} (h : Blk w g t cs) (hu : Upd g' w w') (hne : g ≠ g') : Blk w' g t cs := by
  unfold Blk
  rw [hu.block g h.lt hne]
  exact h
theorem Blk.below {w w' : World} {g : Nat} {t : TypeId} {cs : List Value} (h : Blk w g t cs) (hb : Below w.heap.size w w') : Blk w' g t cs := by
  unfold Blk
  rw [hb.block g h.lt]
  exact h
theorem Blk.alloc {w : World} {g : Nat} {t : TypeId} {cs : List Value} (h : Blk w g t cs) (o : Obj) : Blk (w.alloc o) g t cs := by
  unfold Blk
  rw [Below.heap_alloc _ _ _ h.lt]
  exact h
theorem Blk.drewN {w : World} {g : Nat} {t : TypeId} {cs : List Value} (h : Blk w g t cs) (n : Nat) : Blk (w.drewN n) g t cs := h
theorem Blk.drew {w w' : World} {g : Nat} {t : TypeId} {cs : List Value} (h : Blk w g t cs) (hd : Drew w w') : Blk w' g t cs := by obtain ⟨n, rfl⟩ := hd; exact h
theorem Blk.new (w : World) (cs : List Value) (t : TypeId) : Blk (w.alloc (.cells cs.toArray t)) w.heap.size t cs := by
  unfold Blk
  show (w.heap.push _)[w.heap.size]? = _
  simp
theorem Blk.inj {w : World} {g : Nat} {t : TypeId} {cs ds : List Value} (h : Blk w g t cs) (h' : Blk w g t ds) : cs = ds := by
  unfold Blk at h h'
  rw [h] at h'
  simpa using h'
end Go.Proofs.Qxb6500883aGreatDoor
