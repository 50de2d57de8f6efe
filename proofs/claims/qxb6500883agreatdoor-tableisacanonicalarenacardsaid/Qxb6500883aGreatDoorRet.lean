/- A whole block as a value: loads of structs and arrays however large; a result that is read out of its own block. -/
import Derived.Test.Qxb6500883aGreatDoorBlk
import Derived.Laws.Rows
import Derived.Laws.Cells
namespace Go.Proofs.Qxb6500883aGreatDoor
open Go.RowKit
set_option linter.unusedSimpArgs false
set_option linter.unusedVariables false

/-- A type that is read as a whole: n cells. -/
def AggOf (P : Program) (t : TypeId) (n : Nat) : Prop := (∀ w, (isAgg t).run P w = .ok true w) ∧ (∀ w, (sizeOf t).run P w = .ok n w)
theorem AggOf.struct {P : Program} {t : TypeId} {n : Nat} {fs} (hu : P.underlying t = some (.struct fs)) (hi : (P.info? t).map (·.size) = some n) : AggOf P t n := by
  refine ⟨fun w => by simp [isAgg, run_underlying hu], fun w => ?_⟩
  cases hq : P.info? t with
  | none => simp [hq] at hi
  | some i =>
    simp [hq] at hi
    simp [sizeOf, typeInfo, hq, hi]
theorem AggOf.array {P : Program} {t : TypeId} {n : Nat} {k e} (hu : P.underlying t = some (.array k e)) (hi : (P.info? t).map (·.size) = some n) : AggOf P t n := by
  refine ⟨fun w => by simp [isAgg, run_underlying hu], fun w => ?_⟩
  cases hq : P.info? t with
  | none => simp [hq] at hi
  | some i =>
    simp [hq] at hi
    simp [sizeOf, typeInfo, hq, hi]

theorem run_loadVar_blk {P : Program} {w : World} {g : Nat} {t t' : TypeId} {cs : List Value} (ha : AggOf P t cs.length) (hb : Blk w g t' cs) :
    (loadVar t ⟨g, 0, none⟩).run P w = .ok (.agg cs.toArray) w := by
  have hl := run_loadCells_list (P := P) w ⟨g, 0, none⟩ cs (fun j v hv => by
    have hadd : (⟨g, 0, none⟩ : Addr).add j = ⟨g, j, none⟩ := by unfold Addr.add; split <;> simp_all
    rw [hadd, hb.cell]
    exact hv)
  simp [loadVar, ha.1, ha.2, hl]

theorem results_blk {P : Program} {fn : Func} {tmps : Array Value} {w : World} {g s : Nat} {t t' : TypeId} {cs : List Value} (hr : fn.results = #[.cell s t])
    (hs : tmps.getD s undef = .pointer (some ⟨g, 0, none⟩)) (ha : AggOf P t cs.length) (hb : Blk w g t' cs) :
    (results fn tmps).run P w = .ok (.agg cs.toArray) w := by
  have hl := run_loadVar_blk ha hb
  have hs' : tmps[s]?.getD undef = .pointer (some ⟨g, 0, none⟩) := by simpa using hs
  simp [results, hr, hs', asAddr, hl]
end Go.Proofs.Qxb6500883aGreatDoor
