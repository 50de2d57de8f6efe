/- New: Valid; the making of the engine. -/
import Derived.Test.Qxb6500892aDoorTqRcl
namespace Go.Proofs.Qxb6500892aDoor
open Go.RowKit
set_option linter.unusedSimpArgs false
set_option linter.unusedVariables false

def cfgB (a b c d : Int) : Bool := decide (1 ≤ a) && (decide (a ≤ 65536) && (decide (0 ≤ c) && (decide (c ≤ 65536) && (decide (0 ≤ b) && (decide (b ≤ a) && (decide (0 ≤ d) && decide (d ≤ a)))))))
theorem cfgB_true {a b c d : Int} : cfgB a b c d = true ↔ 1 ≤ a ∧ a ≤ 65536 ∧ 0 ≤ c ∧ c ≤ 65536 ∧ 0 ≤ b ∧ b ≤ a ∧ 0 ≤ d ∧ d ≤ a := by
  unfold cfgB
  simp
def cfgV (a b c d : Int) : Value := .agg #[.int .i64 a, .int .i64 b, .int .i64 c, .int .i64 d]
set_option maxRecDepth 100000 in
set_option maxHeartbeats 2000000 in
theorem valid_walk (a b c d : Int) (w : World) :
    Calls Tryd.prog 36 #[.agg #[.int .i64 a, .int .i64 b, .int .i64 c, .int .i64 d]] w fun y w' => y = .returned (.bool (cfgB a b c d)) ∧ Below w.heap.size w w' := by
  cases d1 : decide (1 ≤ a) with
  | false =>
    have HB : Hid (cfgB a b c d = false) := hid (by unfold cfgB; rw [d1]; rfl)
    ((go_enter Tryd.func36, Tryd.ntmps36; go_wp2; go_ret; exact ⟨by rw [Hid.out ‹Hid (cfgB _ _ _ _ = _)›]; rfl, (nbel _ _)⟩))
  | true =>
  cases d2 : decide (a ≤ 65536) with
  | false =>
    have HB : Hid (cfgB a b c d = false) := hid (by unfold cfgB; rw [d1, d2]; rfl)
    ((go_enter Tryd.func36, Tryd.ntmps36; go_wp2; go_ret; exact ⟨by rw [Hid.out ‹Hid (cfgB _ _ _ _ = _)›]; rfl, (nbel _ _)⟩))
  | true =>
  cases d3 : decide (0 ≤ c) with
  | false =>
    have HB : Hid (cfgB a b c d = false) := hid (by unfold cfgB; rw [d1, d2, d3]; rfl)
    ((go_enter Tryd.func36, Tryd.ntmps36; go_wp2; go_ret; exact ⟨by rw [Hid.out ‹Hid (cfgB _ _ _ _ = _)›]; rfl, (nbel _ _)⟩))
  | true =>
  cases d4 : decide (c ≤ 65536) with
  | false =>
    have HB : Hid (cfgB a b c d = false) := hid (by unfold cfgB; rw [d1, d2, d3, d4]; rfl)
    ((go_enter Tryd.func36, Tryd.ntmps36; go_wp2; go_ret; exact ⟨by rw [Hid.out ‹Hid (cfgB _ _ _ _ = _)›]; rfl, (nbel _ _)⟩))
  | true =>
  cases d5 : decide (0 ≤ b) with
  | false =>
    have HB : Hid (cfgB a b c d = false) := hid (by unfold cfgB; rw [d1, d2, d3, d4, d5]; rfl)
    ((go_enter Tryd.func36, Tryd.ntmps36; go_wp2; go_ret; exact ⟨by rw [Hid.out ‹Hid (cfgB _ _ _ _ = _)›]; rfl, (nbel _ _)⟩))
  | true =>
  cases d6 : decide (b ≤ a) with
  | false =>
    have HB : Hid (cfgB a b c d = false) := hid (by unfold cfgB; rw [d1, d2, d3, d4, d5, d6]; rfl)
    ((go_enter Tryd.func36, Tryd.ntmps36; go_wp2; go_ret; exact ⟨by rw [Hid.out ‹Hid (cfgB _ _ _ _ = _)›]; rfl, (nbel _ _)⟩))
  | true =>
  cases d7 : decide (0 ≤ d) with
  | false =>
    have HB : Hid (cfgB a b c d = false) := hid (by unfold cfgB; rw [d1, d2, d3, d4, d5, d6, d7]; rfl)
    ((go_enter Tryd.func36, Tryd.ntmps36; go_wp2; go_ret; exact ⟨by rw [Hid.out ‹Hid (cfgB _ _ _ _ = _)›]; rfl, (nbel _ _)⟩))
  | true =>
  cases d8 : decide (d ≤ a) with
  | false =>
    have HB : Hid (cfgB a b c d = false) := hid (by unfold cfgB; rw [d1, d2, d3, d4, d5, d6, d7, d8]; rfl)
    ((go_enter Tryd.func36, Tryd.ntmps36; go_wp2; go_ret; exact ⟨by rw [Hid.out ‹Hid (cfgB _ _ _ _ = _)›]; rfl, (nbel _ _)⟩))
  | true =>
    have HB : Hid (cfgB a b c d = true) := hid (by unfold cfgB; rw [d1, d2, d3, d4, d5, d6, d7, d8]; rfl)
    ((go_enter Tryd.func36, Tryd.ntmps36; go_wp2; go_ret; exact ⟨by rw [Hid.out ‹Hid (cfgB _ _ _ _ = _)›]; rfl, (nbel _ _)⟩))
end Go.Proofs.Qxb6500892aDoor
