/- Extents: lines, blocks, containment, overlap; ExtentOf. -/
import Derived.Test.Qxb6500887aArExt
import Derived.Test.Qxb6500887aLast
namespace Go.Proofs.Qxb6500887a
open Go.RowKit
set_option linter.unusedSimpArgs false
set_option linter.unusedVariables false

/-- The receiver's box. -/
structure Bx (w : World) (h : Nat) (k n : Int) (wr : World) : Prop where
  bel : Below w.heap.size w wr
  ba : Blk wr h 64 [.int .i64 k, .int .i64 n]
theorem Bx.below {w wr w' : World} {h : Nat} {k n : Int} (f : Bx w h k n wr) (hb : Below wr.heap.size wr w') : Bx w h k n w' :=
  ⟨f.bel.trans (hb.mono f.bel.size), f.ba.below hb⟩
theorem Bx.start (w : World) (k n : Int) : Bx w w.heap.size k n (w.alloc (.cells #[.int .i64 k, .int .i64 n] 64)) :=
  ⟨Below.alloc (Below.refl _ _) (Nat.le_refl _) _, Blk.new _ _ _⟩

set_option maxRecDepth 100000 in
set_option maxHeartbeats 1000000 in
theorem extLines_walk (k n : Int) (h : ExtOk k n) (w : World) :
    Calls Try.prog 44 #[extV k n] w fun e w' => e = .returned (.int .i64 ((k + n - 1) / 16 - k / 16 + 1)) ∧ Below w.heap.size w w' := by
  have H1 := hid (fun w => extLastLine_walk k n h w)
  have H2 := hid (fun w => extFirstLine_walk k n h w)
  obtain ⟨p, hp⟩ : ∃ p, w.heap.size = p := ⟨_, rfl⟩
  have HB := hid (Bx.start w k n)
  rw [hp] at HB
  obtain ⟨wr, hwr⟩ : ∃ wr, w.alloc (.cells #[.int .i64 k, .int .i64 n] 64) = wr := ⟨_, rfl⟩
  rw [hwr] at HB
  obtain ⟨X, W, hT, hI⟩ := class_mk (Bx w p k n)
  have HC : Hid (∀ q w', Below (W q).heap.size (W q) w' → ∃ y, w' = W y) := hid (fun q w' hb => hI _ ((hT q).below hb))
  have H0 : Hid (∃ q, wr.drew = W q) := hid (hI _ (HB.out.below (Drew.below ⟨1, rfl⟩ _)))
  have hne : Nonempty X := ⟨H0.out.choose⟩
  have a0 : ∀ q, (W q).cell? ⟨p, 0, none⟩ = some (.int .i64 k) := fun q => (hT q).ba.cell 0
  have a1 : ∀ q, (W q).cell? ⟨p, 1, none⟩ = some (.int .i64 n) := fun q => (hT q).ba.cell 1
  have HX := hid hT
  clear hT hI
  obtain ⟨k0, n0, kn⟩ := h
  unfold extV
  go_enter Try.func44, Try.ntmps44
  go_upto_region 1 with fail
  clear hwr hp
  refine wp_region_class W (by kernel_rfl) (by kernel_rfl) H0.out ?_
  repeat (go_big_quiet_step (first
    | (go_at_call 46; exact Calls.class_of HC.out (H1.out _))
    | (go_at_call 45; exact Calls.class_of HC.out (H2.out _))))
  refine wpQuiet_nil ?_
  intro q
  go_wp2
  go_ret
  exact ⟨rfl, (HX.out q).bel⟩

set_option maxRecDepth 100000 in
set_option maxHeartbeats 1000000 in
theorem extCrosses_walk (k n : Int) (h : ExtOk k n) (w : World) :
    Calls Try.prog 49 #[extV k n] w fun e w' => e = .returned (.bool (k / 512 != (k + n - 1) / 512)) ∧ Below w.heap.size w w' := by
  have H1 := hid (fun w => extFirstBlock_walk k n h w)
  have H2 := hid (fun w => extLastBlock_walk k n h w)
  obtain ⟨p, hp⟩ : ∃ p, w.heap.size = p := ⟨_, rfl⟩
  have HB := hid (Bx.start w k n)
  rw [hp] at HB
  obtain ⟨wr, hwr⟩ : ∃ wr, w.alloc (.cells #[.int .i64 k, .int .i64 n] 64) = wr := ⟨_, rfl⟩
  rw [hwr] at HB
  obtain ⟨X, W, hT, hI⟩ := class_mk (Bx w p k n)
  have HC : Hid (∀ q w', Below (W q).heap.size (W q) w' → ∃ y, w' = W y) := hid (fun q w' hb => hI _ ((hT q).below hb))
  have H0 : Hid (∃ q, wr.drew = W q) := hid (hI _ (HB.out.below (Drew.below ⟨1, rfl⟩ _)))
  have hne : Nonempty X := ⟨H0.out.choose⟩
  have a0 : ∀ q, (W q).cell? ⟨p, 0, none⟩ = some (.int .i64 k) := fun q => (hT q).ba.cell 0
  have a1 : ∀ q, (W q).cell? ⟨p, 1, none⟩ = some (.int .i64 n) := fun q => (hT q).ba.cell 1
  have HX := hid hT
  clear hT hI
  obtain ⟨k0, n0, kn⟩ := h
  unfold extV
  go_enter Try.func49, Try.ntmps49
  go_upto_region 1 with fail
  clear hwr hp
  refine wp_region_class W (by kernel_rfl) (by kernel_rfl) H0.out ?_
  repeat (go_big_quiet_step (first
    | (go_at_call 47; exact Calls.class_of HC.out (H1.out _))
    | (go_at_call 48; exact Calls.class_of HC.out (H2.out _))))
  refine wpQuiet_nil ?_
  intro q
  go_wp2
  go_ret
  exact ⟨rfl, (HX.out q).bel⟩

set_option maxRecDepth 100000 in
theorem extContains_walk (k n z : Int) (h : ExtOk k n) (w : World) :
    Calls Try.prog 43 #[extV k n, .int .i64 z] w fun e w' => e = .returned (.bool (decide (k ≤ z ∧ z < k + n))) ∧ Below w.heap.size w w' := by
  have HC := hid (fun w => extEnd_walk k n h w)
  unfold extV
  by_cases h0 : k ≤ z
  · have d0 : decide (k ≤ z) = true := decide_eq_true h0
    have HE : Hid (decide (k ≤ z ∧ z < k + n) = decide (z < k + n)) := hid (by simp [h0])
    rw [HE.out]
    obtain ⟨d, hd⟩ : ∃ d, decide (z < k + n) = d := ⟨_, rfl⟩
    rw [hd]
    clear h0 h
    go_enter Try.func43, Try.ntmps43
    go_wp2_with fail
    refine (HC.out _).mono ?_
    rintro e w1 ⟨rfl, hb1⟩
    have HB : Hid (Below w.heap.size w w1) := hid ((Below.alloc (Below.refl _ _) (Nat.le_refl _) _).trans (hb1.mono (by simp)))
    clear hb1
    go_wp2
    go_ret
    exact ⟨rfl, HB.out⟩
  · have d0 : decide (k ≤ z) = false := decide_eq_false h0
    rw [decide_eq_false (fun h => h0 h.1)]
    clear h0 h
    go_enter Try.func43, Try.ntmps43
    go_wp2
    go_ret
    exact ⟨rfl, Below.alloc (Below.refl _ _) (Nat.le_refl _) _⟩
end Go.Proofs.Qxb6500887a
