/- The walks of the two laws without a parameter: DivisionEdge, ParseEdges. -/
import Derived.Test.Qxb6500890aTextDiv
import Derived.Test.Qxb6500890aTextParse
import Derived.RowKit3
namespace Go.Proofs.Qxb6500890a
open Go.RowKit

theorem divisionEdge_walk (w : World) : Calls Try.prog 10 #[] w fun e w' => e = .returned (.bool true) ∧ Grown w w' := by
  have h1 : divOut (-9223372036854775808) (-1) = (0, 3) := by decide
  have h2 : modOut (-9223372036854775808) (-1) = (0, 0) := by decide
  go_enter Try.func10, Try.ntmps10
  go_wp2_with (first
    | (go_at_call 19; refine (div_walk _ _ (by unfold I64; omega) _).mono ?_; rintro e w' ⟨rfl, rfl⟩)
    | (go_at_call 20; refine (mod_walk _ _ _).mono ?_; rintro e w' ⟨rfl, rfl⟩))
  go_ret
  exact ⟨rfl, Grown.refl _⟩

theorem parse_lit0 (w : World) : Calls Try.prog 13 #[.string ⟨#[45, 57, 50, 50, 51, 51, 55, 50, 48, 51, 54, 56, 53, 52, 55, 55, 53, 56, 48, 56]⟩] w fun e w' => e = .returned (.tuple #[.int .i64 (-9223372036854775808), .int .i64 0]) ∧ w' = w := by
  have h := parse_walk ⟨#[45, 57, 50, 50, 51, 51, 55, 50, 48, 51, 54, 56, 53, 52, 55, 55, 53, 56, 48, 56]⟩ (by decide +kernel) w
  have e : parseOut (ByteArray.mk #[45, 57, 50, 50, 51, 51, 55, 50, 48, 51, 54, 56, 53, 52, 55, 55, 53, 56, 48, 56]).data.toList = (-9223372036854775808, 0) := by decide +kernel
  rw [e] at h
  exact h
theorem parse_lit1 (w : World) : Calls Try.prog 13 #[.string ⟨#[57, 50, 50, 51, 51, 55, 50, 48, 51, 54, 56, 53, 52, 55, 55, 53, 56, 48, 55]⟩] w fun e w' => e = .returned (.tuple #[.int .i64 (9223372036854775807), .int .i64 0]) ∧ w' = w := by
  have h := parse_walk ⟨#[57, 50, 50, 51, 51, 55, 50, 48, 51, 54, 56, 53, 52, 55, 55, 53, 56, 48, 55]⟩ (by decide +kernel) w
  have e : parseOut (ByteArray.mk #[57, 50, 50, 51, 51, 55, 50, 48, 51, 54, 56, 53, 52, 55, 55, 53, 56, 48, 55]).data.toList = (9223372036854775807, 0) := by decide +kernel
  rw [e] at h
  exact h
theorem parse_lit2 (w : World) : Calls Try.prog 13 #[.string ⟨#[45, 57, 50, 50, 51, 51, 55, 50, 48, 51, 54, 56, 53, 52, 55, 55, 53, 56, 48, 57]⟩] w fun e w' => e = .returned (.tuple #[.int .i64 (0), .int .i64 2]) ∧ w' = w := by
  have h := parse_walk ⟨#[45, 57, 50, 50, 51, 51, 55, 50, 48, 51, 54, 56, 53, 52, 55, 55, 53, 56, 48, 57]⟩ (by decide +kernel) w
  have e : parseOut (ByteArray.mk #[45, 57, 50, 50, 51, 51, 55, 50, 48, 51, 54, 56, 53, 52, 55, 55, 53, 56, 48, 57]).data.toList = (0, 2) := by decide +kernel
  rw [e] at h
  exact h
theorem parse_lit3 (w : World) : Calls Try.prog 13 #[.string ⟨#[57, 50, 50, 51, 51, 55, 50, 48, 51, 54, 56, 53, 52, 55, 55, 53, 56, 48, 56]⟩] w fun e w' => e = .returned (.tuple #[.int .i64 (0), .int .i64 2]) ∧ w' = w := by
  have h := parse_walk ⟨#[57, 50, 50, 51, 51, 55, 50, 48, 51, 54, 56, 53, 52, 55, 55, 53, 56, 48, 56]⟩ (by decide +kernel) w
  have e : parseOut (ByteArray.mk #[57, 50, 50, 51, 51, 55, 50, 48, 51, 54, 56, 53, 52, 55, 55, 53, 56, 48, 56]).data.toList = (0, 2) := by decide +kernel
  rw [e] at h
  exact h
theorem parseEdges_walk (w : World) : Calls Try.prog 9 #[] w fun e w' => e = .returned (.bool true) ∧ Grown w w' := by
  go_enter Try.func9, Try.ntmps9
  go_wp2_with fail
  refine (parse_lit0 _).mono ?_
  rintro e w' ⟨rfl, rfl⟩
  go_wp2_with fail
  refine (parse_lit1 _).mono ?_
  rintro e w' ⟨rfl, rfl⟩
  go_wp2_with fail
  refine (parse_lit2 _).mono ?_
  rintro e w' ⟨rfl, rfl⟩
  go_wp2_with fail
  refine (parse_lit3 _).mono ?_
  rintro e w' ⟨rfl, rfl⟩
  go_wp2
  go_ret
  exact ⟨rfl, Grown.refl _⟩
end Go.Proofs.Qxb6500890a
