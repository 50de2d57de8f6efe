/- Extents. -/
import Derived.Test.Qxb6500887aGreatArAddr2
import Derived.Deep.DeepCutAuto
namespace Go.Proofs.Qxb6500887aGreat
open Go.RowKit
set_option linter.unusedSimpArgs false
set_option linter.unusedVariables false

/-- An extent in the heap. -/
structure ExtOk (k n : Int) : Prop where
  k0 : 0 ≤ k
  n0 : 1 ≤ n
  kn : k + n ≤ 32768
def extV (k n : Int) : Value := .agg #[.int .i64 k, .int .i64 n]

set_option maxRecDepth 100000 in
theorem extEnd_walk (k n : Int) (h : ExtOk k n) (w : World) :
    Calls Tryz.prog 44 #[extV k n] w fun e w' => e = .returned (.int .i64 (k + n)) ∧ Below w.heap.size w w' := by
  obtain ⟨k0, n0, kn⟩ := h
  unfold extV
  go_enter Tryz.func44, Tryz.ntmps44
  go_wp2
  go_ret
  exact ⟨rfl, Below.alloc (Below.refl _ _) (Nat.le_refl _) _⟩

set_option maxRecDepth 100000 in
theorem extAddr_walk (k n : Int) (h : ExtOk k n) (w : World) :
    Calls Tryz.prog 43 #[extV k n] w fun e w' => e = .returned (.int .u64 (65536 + k)) ∧ Below w.heap.size w w' := by
  obtain ⟨k0, n0, kn⟩ := h
  unfold extV
  go_enter Tryz.func43, Tryz.ntmps43
  go_wp2
  go_ret
  exact ⟨rfl, Below.alloc (Below.refl _ _) (Nat.le_refl _) _⟩

set_option maxRecDepth 100000 in
theorem extFirstLine_walk (k n : Int) (h : ExtOk k n) (w : World) :
    Calls Tryz.prog 209 #[extV k n] w fun e w' => e = .returned (.int .i64 (k / 16)) ∧ Below w.heap.size w w' := by
  obtain ⟨k0, n0, kn⟩ := h
  unfold extV
  go_enter Tryz.func209, Tryz.ntmps209
  go_wp2
  go_ret
  exact ⟨rfl, Below.alloc (Below.refl _ _) (Nat.le_refl _) _⟩

set_option maxRecDepth 100000 in
theorem extLastLine_walk (k n : Int) (h : ExtOk k n) (w : World) :
    Calls Tryz.prog 210 #[extV k n] w fun e w' => e = .returned (.int .i64 ((k + n - 1) / 16)) ∧ Below w.heap.size w w' := by
  have HC := hid (fun w => extEnd_walk k n h w)
  obtain ⟨k0, n0, kn⟩ := h
  unfold extV
  go_enter Tryz.func210, Tryz.ntmps210
  go_wp2_with fail
  refine (HC.out _).mono ?_
  rintro e w1 ⟨rfl, hb1⟩
  have HB : Hid (Below w.heap.size w w1) := hid ((Below.alloc (Below.refl _ _) (Nat.le_refl _) _).trans (hb1.mono (by simp)))
  clear hb1
  go_wp2
  go_ret
  exact ⟨rfl, HB.out⟩

end Go.Proofs.Qxb6500887aGreat
