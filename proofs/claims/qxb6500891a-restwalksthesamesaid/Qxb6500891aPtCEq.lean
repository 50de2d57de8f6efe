/- '==' of a component with itself. -/
import Derived.Test.Qxb6500891aPtEq
namespace Go.Proofs.Qxb6500891a
open Go.RowKit
set_option linter.unusedSimpArgs false
set_option linter.unusedVariables false
theorem buf_eq2 (l1 : List Nat) (h1 : l1.length ≤ 32) (w : World) :
    (Op.equalIn 9998 34 (.agg (List.take 32 (nameC l1).tail).toArray) (.agg (List.take 32 (nameC l1).tail).toArray)).run Try.prog w = .ok true w := by
  rw [name_tail h1]
  have := run_equalIn_ints (P := Try.prog) w 9996 34 5 .u8 (padL l1) (padL l1) rfl (by rw [padL_len h1]; exact Try.underlying34) Try.underlying5 (fun w => by simp [go_sem])
  rw [decide_eq_true rfl] at this
  exact this
theorem name_eq2 (l1 : List Nat) (h1 : l1.length ≤ 32) (w : World) :
    (Op.equalIn 9999 36 (.agg (nameC l1).toArray) (.agg (nameC l1).toArray)).run Try.prog w = .ok true w := by
  have hb := buf_eq2 l1 h1
  have c1 : (nameC l1).toArray[0]? = some (.int .u8 (l1.length : Int)) := rfl
  generalize nameC l1 = C1 at *
  simp [go_sem, part, hb, c1]
theorem comp_refl (l : List Nat) (h : l.length ≤ 32) (cls hh : Int) (nd last : Bool) (w : World) :
    (Op.equalIn 10000 40 (.agg (nameC l ++ [Value.int .u8 cls, .int .u32 hh, .bool nd, .bool last]).toArray) (.agg (nameC l ++ [Value.int .u8 cls, .int .u32 hh, .bool nd, .bool last]).toArray)).run Try.prog w = .ok true w := by
  have hb := name_eq2 l h
  have hl := nameC_len h
  generalize nameC l = C1 at *
  have ht : List.take 33 (C1 ++ [Value.int .u8 cls, .int .u32 hh, .bool nd, .bool last]) = C1 := by rw [List.take_append_of_le_length (by omega), List.take_of_length_le (by omega)]
  have e33 : (C1 ++ [Value.int .u8 cls, .int .u32 hh, .bool nd, .bool last])[33]? = some (.int .u8 cls) := by rw [List.getElem?_append_right (by omega), hl]; rfl
  have e34 : (C1 ++ [Value.int .u8 cls, .int .u32 hh, .bool nd, .bool last])[34]? = some (.int .u32 hh) := by rw [List.getElem?_append_right (by omega), hl]; rfl
  have e35 : (C1 ++ [Value.int .u8 cls, .int .u32 hh, .bool nd, .bool last])[35]? = some (.bool nd) := by rw [List.getElem?_append_right (by omega), hl]; rfl
  have e36 : (C1 ++ [Value.int .u8 cls, .int .u32 hh, .bool nd, .bool last])[36]? = some (.bool last) := by rw [List.getElem?_append_right (by omega), hl]; rfl
  generalize C1 ++ [Value.int .u8 cls, .int .u32 hh, .bool nd, .bool last] = C at *
  simp [go_sem, part, hb, ht, e33, e34, e35, e36]
theorem neq_comp (l : List Nat) (h : l.length ≤ 32) (cls hh : Int) (nd last : Bool) (w : World) :
    (binOp .neq 40 (.agg (nameC l ++ [Value.int .u8 cls, .int .u32 hh, .bool nd, .bool last]).toArray) (.agg (nameC l ++ [Value.int .u8 cls, .int .u32 hh, .bool nd, .bool last]).toArray)).run Try.prog w = .ok (.bool false) w := by
  rw [run_neq_struct, comp_refl l h]
  rfl
end Go.Proofs.Qxb6500891a
