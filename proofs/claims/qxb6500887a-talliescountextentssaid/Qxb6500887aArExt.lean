/- Extents. -/
import Derived.Test.Qxb6500887aArAddr2
import Derived.Deep.DeepCutAuto
namespace Go.Proofs.Qxb6500887a
open Go.RowKit
set_option linter.unusedSimpArgs false
set_option linter.unusedVariables false

/-- An extent in the heap. -/
structure ExtOk (k n : Int) : Prop where
  k0 : 0 ≤ k
  n0 : 1 ≤ n
  kn : k + n ≤ 32768
def extV (k n : Int) : Value := .agg #[.int .i64 k, .int .i64 n]

set_option maxRecDepth 100000 in
theorem extEnd_walk (k n : Int) (h : ExtOk k n) (w : World) :
    Calls Try.prog 42 #[extV k n] w fun e w' => e = .returned (.int .i64 (k + n)) ∧ Below w.heap.size w w' := by
  obtain ⟨k0, n0, kn⟩ := h
  unfold extV
  go_enter Try.func42, Try.ntmps42
  go_wp2
  go_ret
  exact ⟨rfl, Below.alloc (Below.refl _ _) (Nat.le_refl _) _⟩

set_option maxRecDepth 100000 in
theorem extAddr_walk (k n : Int) (h : ExtOk k n) (w : World) :
    Calls Try.prog 41 #[extV k n] w fun e w' => e = .returned (.int .u64 (65536 + k)) ∧ Below w.heap.size w w' := by
  obtain ⟨k0, n0, kn⟩ := h
  unfold extV
  go_enter Try.func41, Try.ntmps41
  go_wp2
  go_ret
  exact ⟨rfl, Below.alloc (Below.refl _ _) (Nat.le_refl _) _⟩

set_option maxRecDepth 100000 in
theorem extFirstLine_walk (k n : Int) (h : ExtOk k n) (w : World) :
    Calls Try.prog 45 #[extV k n] w fun e w' => e = .returned (.int .i64 (k / 16)) ∧ Below w.heap.size w w' := by
  obtain ⟨k0, n0, kn⟩ := h
  unfold extV
  go_enter Try.func45, Try.ntmps45
  go_wp2
  go_ret
  exact ⟨rfl, Below.alloc (Below.refl _ _) (Nat.le_refl _) _⟩

set_option maxRecDepth 100000 in
theorem extFirstBlock_walk (k n : Int) (h : ExtOk k n) (w : World) :
    Calls Try.prog 47 #[extV k n] w fun e w' => e = .returned (.int .i64 (k / 512)) ∧ Below w.heap.size w w' := by
  obtain ⟨k0, n0, kn⟩ := h
  unfold extV
  go_enter Try.func47, Try.ntmps47
  go_wp2
  go_ret
  exact ⟨rfl, Below.alloc (Below.refl _ _) (Nat.le_refl _) _⟩

set_option maxRecDepth 100000 in
theorem extLastLine_walk (k n : Int) (h : ExtOk k n) (w : World) :
    Calls Try.prog 46 #[extV k n] w fun e w' => e = .returned (.int .i64 ((k + n - 1) / 16)) ∧ Below w.heap.size w w' := by
  have HC := hid (fun w => extEnd_walk k n h w)
  obtain ⟨k0, n0, kn⟩ := h
  unfold extV
  go_enter Try.func46, Try.ntmps46
  go_wp2_with fail
  refine (HC.out _).mono ?_
  rintro e w1 ⟨rfl, hb1⟩
  have HB : Hid (Below w.heap.size w w1) := hid ((Below.alloc (Below.refl _ _) (Nat.le_refl _) _).trans (hb1.mono (by simp)))
  clear hb1
  go_wp2
  go_ret
  exact ⟨rfl, HB.out⟩

set_option maxRecDepth 100000 in
theorem extLastBlock_walk (k n : Int) (h : ExtOk k n) (w : World) :
    Calls Try.prog 48 #[extV k n] w fun e w' => e = .returned (.int .i64 ((k + n - 1) / 512)) ∧ Below w.heap.size w w' := by
  have HC := hid (fun w => extEnd_walk k n h w)
  obtain ⟨k0, n0, kn⟩ := h
  unfold extV
  go_enter Try.func48, Try.ntmps48
  go_wp2_with fail
  refine (HC.out _).mono ?_
  rintro e w1 ⟨rfl, hb1⟩
  have HB : Hid (Below w.heap.size w w1) := hid ((Below.alloc (Below.refl _ _) (Nat.le_refl _) _).trans (hb1.mono (by simp)))
  clear hb1
  go_wp2
  go_ret
  exact ⟨rfl, HB.out⟩
end Go.Proofs.Qxb6500887a
