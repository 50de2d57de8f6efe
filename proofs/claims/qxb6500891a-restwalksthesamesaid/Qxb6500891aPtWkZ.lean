/- Walk: the zero walk. -/
import Derived.Test.Qxb6500891aPtSz
import Derived.Test.Qxb6500891aRet
namespace Go.Proofs.Qxb6500891a
open Go.RowKit
set_option linter.unusedSimpArgs false
set_option linter.unusedVariables false
def zLv : List Value := List.replicate 255 (.int .u8 0) ++ [.int .i64 0, .int .i64 0] ++ (List.replicate 128 [Value.int .u8 0, .int .u8 0, .int .u8 0, .bool false, .int .u32 0]).flatten ++ [.int .i64 0, .bool false]
def zTail : List Value := [.int .i64 0, .int .i64 0, .int .i64 0, .bool false, .bool false]
def zWalk : List Value := (List.replicate 9 zLv).flatten ++ zTail
theorem zWalk_len : zWalk.length = 8096 := by kernel_rfl
set_option maxRecDepth 1000000 in
theorem zero_walk (w : World) : (zeroValue 68).run Try.prog w = .ok (.agg zWalk.toArray) w := by kernel_rfl
theorem info_walk : (Try.prog.info? 68).map (·.size) = some 8096 := by kernel_rfl
theorem zWalk_one : ∀ v ∈ zWalk, v.oneCell' = true := by
  have h : zWalk.all (fun v => v.oneCell') = true := by kernel_rfl
  exact List.all_eq_true.1 h
theorem zWalk_tail : zWalk[8091]? = some (.int .i64 0) ∧ zWalk[8092]? = some (.int .i64 0) ∧ zWalk[8093]? = some (.int .i64 0) ∧ zWalk[8094]? = some (.bool false) ∧ zWalk[8095]? = some (.bool false) := by
  refine ⟨?_, ?_, ?_, ?_, ?_⟩ <;> kernel_rfl
end Go.Proofs.Qxb6500891a
