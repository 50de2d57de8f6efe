/- Walks of text.Div, text.Mod: what each returns, as plain functions on Int. -/
import Derived.Test.Qxb6500890aDoorProg
import Derived.WalkKit
import Derived.WalkSpells
namespace Go.Proofs.Qxb6500890aDoor
open Go.RowKit

/-- int64. -/
def I64 (a : Int) : Prop := -9223372036854775808 ≤ a ∧ a ≤ 9223372036854775807

/-- text.Div as a plain function: the quotient and the code. -/
def divOut (a b : Int) : Int × Int :=
  if b = 0 then (0, 4) else if a = -9223372036854775808 ∧ b = -1 then (0, 3) else (a.tdiv b, 0)
/-- text.Mod as a plain function. -/
def modOut (a b : Int) : Int × Int :=
  if b = 0 then (0, 4) else if b = -1 then (0, 0) else (a.tmod b, 0)



theorem ret_div {k l : IntKind} {a b c d : Int} (h : a = b) (h' : c = d) : Ending.returned (.tuple #[.int k a, .int l c]) = .returned (.tuple #[.int k b, .int l d]) := by rw [h, h']

theorem natAbs_tdiv_le (a b : Int) : (a.tdiv b).natAbs ≤ a.natAbs := by
  rw [Int.natAbs_tdiv]; exact Nat.div_le_self _ _

theorem tdiv_I64 {a b : Int} (ha : I64 a) (hb0 : b ≠ 0) (hm : ¬ (a = -9223372036854775808 ∧ b = -1)) : I64 (a.tdiv b) := by
  obtain ⟨h1, h2⟩ := ha
  have h := natAbs_tdiv_le a b
  by_cases e : a = -9223372036854775808
  · have hb1 : b ≠ -1 := fun hb => hm ⟨e, hb⟩
    subst e
    have hq : ((-9223372036854775808 : Int).tdiv b).natAbs = 9223372036854775808 / b.natAbs := by rw [Int.natAbs_tdiv]; rfl
    unfold I64
    by_cases hb2 : b = 1
    · subst hb2; simp
    · have h3 : 2 ≤ b.natAbs := by omega
      have : 9223372036854775808 / b.natAbs ≤ 9223372036854775808 / 2 := Nat.div_le_div_left h3 (by omega)
      omega
  · unfold I64; omega

theorem div_walk (a b : Int) (ha : I64 a) (w : World) :
    Calls Tryd.prog 58 #[.int .i64 a, .int .i64 b] w fun e w' => e = .returned (.tuple #[.int .i64 (divOut a b).1, .int .i64 (divOut a b).2]) ∧ w' = w := by
  unfold divOut
  by_cases hb0 : b = 0
  · subst hb0
    go_enter Tryd.func58, Tryd.ntmps58
    go_wp2
    go_ret2
    exact ⟨rfl, rfl⟩
  · by_cases hm : a = -9223372036854775808 ∧ b = -1
    · obtain ⟨rfl, rfl⟩ := hm
      go_enter Tryd.func58, Tryd.ntmps58
      go_wp2
      go_ret2
      exact ⟨rfl, rfl⟩
    · rw [if_neg hb0, if_neg hm]
      have hr := IntWalk.wrap64_in _ (tdiv_I64 ha hb0 hm)
      have HR := (show Hid _ from hr)
      clear hr
      go_enter Tryd.func58, Tryd.ntmps58
      go_wp2
      · go_ret2
        subst a
        refine ⟨ret_div ?_ rfl, rfl⟩
        have HX := HR.out
        rw [Int.neg_tdiv] at HX ⊢
        exact HX
      · go_ret2
        exact ⟨ret_div HR.out rfl, rfl⟩

theorem mod_walk (a b : Int) (w : World) :
    Calls Tryd.prog 59 #[.int .i64 a, .int .i64 b] w fun e w' => e = .returned (.tuple #[.int .i64 (modOut a b).1, .int .i64 (modOut a b).2]) ∧ w' = w := by
  unfold modOut
  by_cases hb0 : b = 0
  · subst hb0
    go_enter Tryd.func59, Tryd.ntmps59
    go_wp2
    go_ret2
    exact ⟨rfl, rfl⟩
  · by_cases hm : b = -1
    · subst hm
      go_enter Tryd.func59, Tryd.ntmps59
      go_wp2
      go_ret2
      exact ⟨rfl, rfl⟩
    · rw [if_neg hb0, if_neg hm]
      go_enter Tryd.func59, Tryd.ntmps59
      go_wp2
      go_ret2
      exact ⟨rfl, rfl⟩
end Go.Proofs.Qxb6500890aDoor
