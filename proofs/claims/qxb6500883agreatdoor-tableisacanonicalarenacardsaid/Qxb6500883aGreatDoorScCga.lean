/- Rows of one-cell elements in blocks of their own. -/
import Derived.Test.Qxb6500883aGreatDoorScCg
import Derived.Deep.OwnRows
namespace Go.Proofs.Qxb6500883aGreatDoor
open Go.RowKit
set_option linter.unusedSimpArgs false
set_option linter.unusedVariables false
theorem made_fn (z : Value) (n : Nat) : madeCells #[z] n = (fnC n (fun _ => z)).toArray := by
  apply Array.ext'
  unfold madeCells fnC
  simp
  intro a _
  rw [Nat.mod_one]
  rfl
/-- A row of n elements in block g, of role r: k x is the element's cell. -/
def RwK {α : Type} (t : TypeId) (k : α → Value) (g n : Nat) (f : Nat → α) (r : Nat) (ρ : Rl) (w : World) : Prop := Blk w g t (fnC n (fun j => k (f j))) ∧ ρ g = r
section
variable {α : Type} {t : TypeId} {k : α → Value} {g n r : Nat} {f f' : Nat → α} {ρ ρ' : Rl} {w w' : World}
theorem RwK.fr {X : Nat → Bool} (h : RwK t k g n f r ρ w) (hf : Fr X ρ w ρ' w') (hX : X r = false) : RwK t k g n f r ρ' w' := ⟨hf.keep h.1 h.2 hX, by rw [hf.old _ h.1.lt]; exact h.2⟩
theorem RwK.keeps (hr : XD r = false) : Keeps (RwK t k g n f r) := fun ρ w ρ' w' h hf => h.fr hf hr
theorem RwK.get (h : RwK t k g n f r ρ w) {j : Nat} (hj : j < n) : w.cell? ⟨g, j, none⟩ = some (k (f j)) := by
  rw [h.1.cell j, fnC_get _ hj]
theorem RwK.frozen (h : RwK t k g n f r ρ w) (j : Nat) : w.frozen? ⟨g, j, none⟩ = false := h.1.frozen j
theorem RwK.congr (h : RwK t k g n f r ρ w) (he : ∀ j, j < n → f j = f' j) : RwK t k g n f' r ρ w := by
  refine ⟨?_, h.2⟩
  rw [← fnC_congr (f := fun j => k (f j)) (fun i hi => by show k (f i) = k (f' i); rw [he i hi])]
  exact h.1
theorem RwK.set (h : RwK t k g n f r ρ w) {j : Nat} (hj : j < n) (v : α) : RwK t k g n (fup f j v) r ρ (w.setCell ⟨g, j, none⟩ (k v)) := by
  refine ⟨?_, h.2⟩
  have := h.1.set j (k v)
  rw [fnC_set _ hj, fup_map] at this
  exact this
theorem RwK.new (t : TypeId) (k : α → Value) (ρ : Rl) (w : World) (n r : Nat) (z : α) : RwK t k w.heap.size n (fun _ => z) r (fup ρ w.heap.size r) (w.alloc (.cells (madeCells #[k z] n) t)) := by
  refine ⟨?_, fup_self _ _ _⟩
  rw [made_fn]
  exact Blk.new w _ _
theorem RwK.below (h : RwK t k g n f r ρ w) (hb : Below w.heap.size w w') : RwK t k g n f r ρ w' := h.fr (X := fun _ => false) (Fr.below hb) rfl
end
abbrev RwJ (g n : Nat) (f : Nat → Int) (r : Nat) (ρ : Rl) (w : World) : Prop := RwK 21 (fun x : Int => Value.int .i32 x) g n f r ρ w
/-- An int32 row made. -/
theorem make_i32 (n : Nat) (hn : n ≤ 100000000) (w : World) : (Instr.makeSlice 91 (.int .i64 (n : Int)) (.int .i64 (n : Int))).run Tryz.prog w = .ok (.slice (some ⟨w.heap.size, 0, none⟩) n n) (w.alloc (.cells (madeCells #[.int .i32 0] n) 21)) :=
  run_make_row' (P := Tryz.prog) 91 21 (.int .i32 0) 4 (by kernel_rfl) (by kernel_rfl) rfl .i64 .i64 n (by omega) (by omega) w
end Go.Proofs.Qxb6500883aGreatDoor
