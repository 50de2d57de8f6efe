/- Texts of scripts: rows of bytes cut, written, joined. -/
import Derived.Test.Qxb6500883aGreatDoorScTj
import Derived.Test.Qxb6500883aGreatDoorScTh
import Derived.Deep.AppendSrc
namespace Go.Proofs.Qxb6500883aGreatDoor
open Go.RowKit
set_option linter.unusedSimpArgs false
set_option linter.unusedVariables false
section
variable {w w' : World} {n0 : Nat} {v v' : Value} {ds : List UInt8}
theorem add_lit (g o j : Nat) : (⟨g, o, none⟩ : Addr).add j = ⟨g, o + j, none⟩ := by unfold Addr.add; split <;> simp_all
/-- A row cut. -/
theorem OwR.cut {a : Option Addr} {n c k : Nat} (h : OwR rtB n0 w (.slice a n c) ds) (hk : k ≤ n) : OwR rtB n0 w (.slice a k c) (ds.take k) := by
  have hn : ds.length = n := h.rx.src.2.2
  have hl : (ds.take k).length = k := by rw [List.length_take]; omega
  refine ⟨by rw [rtB_flat, List.length_map]; show _ = _ * 1; omega, ?_⟩
  rcases h.2 with ⟨h1, h2⟩ | ⟨g, cap, cur, h1, h2, h3, h4, h5, h6, h7⟩
  · injection h1 with e1 e2 e3
    subst e1 e3
    refine .inl ⟨by rw [show k = 0 by omega], by omega⟩
  · injection h1 with e1 e2 e3
    subst e1 e3
    refine .inr ⟨g, _, cur, by rw [hl], h2, h3, by omega, h5, h6, ?_⟩
    rw [rtB_flat] at h7 ⊢
    have h7 : cur.toList.take (ds.length * 1) = ds.map byV := h7
    show cur.toList.take ((ds.take k).length * 1) = _
    rw [hl, Nat.mul_one, List.map_take, ← h7, List.take_take]
    congr 1
    omega
/-- Its cells from a place on. -/
theorem OwR.cells {g n c : Nat} (h : OwR rtB n0 w (.slice (some ⟨g, 0, none⟩) n c) ds) {lo j : Nat} {u : Value} (hu : ((ds.drop lo).map byV)[j]? = some u) : w.cell? ⟨g, lo + j, none⟩ = some u := by
  have := h.rx.src.1 ⟨g, 0, none⟩ rfl (lo + j) u (by rw [rtB_flat, List.getElem?_map]; rw [List.getElem?_map, List.getElem?_drop] at hu; exact hu)
  rw [add_lit, Nat.zero_add] at this
  exact this
/-- A byte written. -/
theorem OwR.poke {g n c i : Nat} {y : UInt8} (h : OwR rtB n0 w (.slice (some ⟨g, 0, none⟩) n c) ds) (hi : i < n) : OwR rtB n0 (w.setCell ⟨g, i, none⟩ (byV y)) (.slice (some ⟨g, 0, none⟩) n c) (ds.set i y) := by
  have hn : ds.length = n := h.rx.src.2.2
  refine ⟨by rw [rtB_flat, List.length_map]; show _ = _ * 1; omega, ?_⟩
  rcases h.2 with ⟨h1, h2⟩ | ⟨g', cap, cur, h1, h2, h3, h4, h5, h6, h7⟩
  · cases h1
  · injection h1 with e1 e2 e3
    injection e1 with e1
    injection e1 with e4
    subst e4 e3
    refine .inr ⟨g, _, cur.setIfInBounds i (byV y), by rw [List.length_set, hn], h2, ?_, by rw [List.length_set]; exact h4, h5, by rw [Array.size_setIfInBounds]; exact h6, ?_⟩
    · rw [setCell_eq_setRow w g i cur _ _ (byV y) h3]
      exact setRow_heap w g cur _ _ _ h3
    · rw [rtB_flat] at h7 ⊢
      have h7 : cur.toList.take (ds.length * 1) = ds.map byV := h7
      show (cur.setIfInBounds i (byV y)).toList.take ((ds.set i y).length * 1) = _
      rw [List.length_set, List.map_set, ← h7, Array.toList_setIfInBounds, List.take_set]
theorem OwR.unf {g n c i : Nat} (h : OwR rtB n0 w (.slice (some ⟨g, 0, none⟩) n c) ds) : w.frozen? ⟨g, i, none⟩ = false := by
  rcases h.2 with ⟨h1, h2⟩ | ⟨g', cap, cur, h1, h2, h3, h4, h5, h6, h7⟩
  · cases h1
  · injection h1 with e1 e2 e3
    injection e1 with e1
    injection e1 with e4
    subst e4
    simp [World.frozen?, h3]
theorem setCell_frame {g i : Nat} {u : Value} (hg : n0 ≤ g) (h0 : n0 ≤ w.heap.size) : Below n0 w (w.setCell ⟨g, i, none⟩ u) := ((Upd.refl g w).setCell (p := ⟨g, i, none⟩) rfl u).below hg h0
theorem slice_hi (a : Option Addr) (n c k : Nat) (hk : k ≤ c) (hs : ∀ ad, a = some ad → ad.spot = none) (w : World) : (Instr.sliceAt 28 (.slice a n c) none (some (.int .u64 (k : Int))) none).run Tryz.prog w = .ok (.slice a k c) w := by
  have e1 : ¬ (c < k) := by omega
  have e2 : (k : Int) ≤ (c : Int) := by omega
  cases a with
  | none => simp [Instr.sliceAt, go_sem, Instr.sliceBounds, e1, e2, Addr.add]
  | some ad =>
    obtain ⟨b, o, sp⟩ := ad
    have : sp = none := hs _ rfl
    subst this
    simp [Instr.sliceAt, go_sem, Instr.sliceBounds, e1, e2, Addr.add]
theorem slice_lo (a : Option Addr) (n c k : Nat) (hk : k ≤ n) (w : World) : (Instr.sliceAt 28 (.slice a n c) (some (.int .u64 (k : Int))) none none).run Tryz.prog w = .ok (.slice (if c = k then a else a.map (·.add k)) (n - k) (c - k)) w := by
  have e1 : ¬ (n < k) := by omega
  have e2 : (k : Int) ≤ (n : Int) := by omega
  simp [Instr.sliceAt, go_sem, Instr.sliceBounds, e1, e2]
end
end Go.Proofs.Qxb6500883aGreatDoor
