/- Extents: lines, blocks, containment, overlap; ExtentOf. -/
import Derived.Test.Qxb6500887aGreatArExt
import Derived.Test.Qxb6500887aGreatLast
namespace Go.Proofs.Qxb6500887aGreat
open Go.RowKit
set_option linter.unusedSimpArgs false
set_option linter.unusedVariables false

/-- The receiver's box. -/
structure Bx (w : World) (h : Nat) (k n : Int) (wr : World) : Prop where
  bel : Below w.heap.size w wr
  ba : Blk wr h 84 [.int .i64 k, .int .i64 n]
theorem Bx.below {w wr w' : World} {h : Nat} {k n : Int} (f : Bx w h k n wr) (hb : Below wr.heap.size wr w') : Bx w h k n w' :=
  ⟨f.bel.trans (hb.mono f.bel.size), f.ba.below hb⟩
theorem Bx.start (w : World) (k n : Int) : Bx w w.heap.size k n (w.alloc (.cells #[.int .i64 k, .int .i64 n] 84)) :=
  ⟨Below.alloc (Below.refl _ _) (Nat.le_refl _) _, Blk.new _ _ _⟩

set_option maxRecDepth 100000 in
theorem extContains_walk (k n z : Int) (h : ExtOk k n) (w : World) :
    Calls Tryz.prog 224 #[extV k n, .int .i64 z] w fun e w' => e = .returned (.bool (decide (k ≤ z ∧ z < k + n))) ∧ Below w.heap.size w w' := by
  have HC := hid (fun w => extEnd_walk k n h w)
  unfold extV
  by_cases h0 : k ≤ z
  · have d0 : decide (k ≤ z) = true := decide_eq_true h0
    have HE : Hid (decide (k ≤ z ∧ z < k + n) = decide (z < k + n)) := hid (by simp [h0])
    rw [HE.out]
    obtain ⟨d, hd⟩ : ∃ d, decide (z < k + n) = d := ⟨_, rfl⟩
    rw [hd]
    clear h0 h
    go_enter Tryz.func224, Tryz.ntmps224
    go_wp2_with fail
    refine (HC.out _).mono ?_
    rintro e w1 ⟨rfl, hb1⟩
    have HB : Hid (Below w.heap.size w w1) := hid ((Below.alloc (Below.refl _ _) (Nat.le_refl _) _).trans (hb1.mono (by simp)))
    clear hb1
    go_wp2
    go_ret
    exact ⟨rfl, HB.out⟩
  · have d0 : decide (k ≤ z) = false := decide_eq_false h0
    rw [decide_eq_false (fun h => h0 h.1)]
    clear h0 h
    go_enter Tryz.func224, Tryz.ntmps224
    go_wp2
    go_ret
    exact ⟨rfl, Below.alloc (Below.refl _ _) (Nat.le_refl _) _⟩
end Go.Proofs.Qxb6500887aGreat
