/- What the laid variables give: arity and arguments. -/
import Derived.Test.Qxb6500889aDoorRows
import Derived.Test.Qxb6500889aDoorMuEd
import Derived.Maps.Keyed
import Derived.WideKeyElems2
import Derived.WideKeyArgs2
import Derived.ProofKit
import Derived.LaidMore
import Derived.OpenShut
import Derived.Stop.Joined
namespace Go.Proofs.Qxb6500889aDoor.everyByteStringDecodes
open Go.ChangeShapes Go.WideShapes Go.ChangeAt Go.WideMaps Go.WideElems Go.RowKit
set_option linter.unusedVariables false
abbrev laid2 : List (String × DataW Unit) := Rows.everyByteStringDecodesRow.laid
theorem gAri : Tryd.prog.globalNamed "e2e/mutapi.arity" = some 1 := by kernel_rfl
theorem gArg : Tryd.prog.globalNamed "e2e/mutapilaw.arguments" = some 2 := by kernel_rfl
theorem tAri : (Tryd.prog.globals[1]?).map (·.type) = some 99 := by kernel_rfl
theorem tArg : (Tryd.prog.globals[2]?).map (·.type) = some 102 := by kernel_rfl
theorem law : Maps.Keyed Tryd.prog 28 := Maps.int_keyed Tryd.underlying28
theorem door_met (os : Os) (args : Array Value) : laidMetH Tryd.prog laid2 ((World.doorLaid Tryd.prog 600 os).forCall (fun _ _ => 0) ⟨#[], args, []⟩).memory :=
  laidMetH_of_parts3 (fuel := 8) (laidMet_of_run' 8 (by kernel_rfl) (by kernel_rfl)) (by kernel_rfl) (by kernel_rfl)
set_option maxRecDepth 1000000 in
theorem of_laid {W : World} (h : laidMetH Tryd.prog laid2 W) : ArG W ∧ ∃ mg, AgG W mg := by
  rw [MakeChecks.laidMetH_plain _ _ _ (by kernel_rfl)] at h
  obtain ⟨ps, ⟨g0, t0, cs0, f0, p0, q0, hg0, ht0, hv0, hd0, ⟨g1, t1, cs1, f1, p1, q1, hg1, ht1, hv1, hd1, _, _⟩, _⟩, _, _⟩ := h
  obtain rfl := Option.some.inj (gAri.symm.trans hg0)
  obtain rfl := Option.some.inj (gArg.symm.trans hg1)
  obtain rfl := Option.some.inj (tAri.symm.trans ht0)
  obtain rfl := Option.some.inj (tArg.symm.trans ht1)
  constructor
  · obtain ⟨xs, m1, rfl, hx1, hlen, hn, hel⟩ := DataW.trod_array Tryd.underlying99 hd0
    have c3 : Tryd.prog.cellsOf 3 = 1 := by kernel_rfl
    simp only [Prod.mk.injEq] at hx1
    have hxs : xs.map (·.1) = [.lit (.int .i64 2), .lit (.int .i64 2), .lit (.int .i64 3), .lit (.int .i64 2), .lit (.int .i64 3), .lit (.int .i64 1), .lit (.int .i64 0), .lit (.int .i64 0), .lit (.int .i64 0)] := by
      have e := hx1.1
      unfold Rows.laid_e2e_mutapi_arity at e
      injection e with e
      exact e.symm
    have key : ∀ k, k < 9 → W.cell? ⟨1, k, none⟩ = some (.int .i64 (ari k : Int)) := fun k hk => by
      obtain ⟨x, hx⟩ : ∃ x, xs[k]? = some x := ⟨_, List.getElem?_eq_getElem (by rw [hn]; exact hk)⟩
      have h0 := hel k hk
      rw [hx, c3, Nat.mul_one] at h0
      obtain ⟨z, e1, e2, _⟩ := DataW.trod_int Tryd.underlying3 h0
      have e3 : (xs.map (·.1))[k]? = some x.1 := by rw [List.getElem?_map, hx]; rfl
      rw [hxs, e2] at e3
      have hz : z = (ari k : Int) := by
        rcases (by omega : k = 0 ∨ k = 1 ∨ k = 2 ∨ k = 3 ∨ k = 4 ∨ k = 5 ∨ k = 6 ∨ k = 7 ∨ k = 8) with rfl | rfl | rfl | rfl | rfl | rfl | rfl | rfl | rfl <;> (simp at e3; rw [← e3]; rfl)
      rw [World.var?_cell hg0 hv0 k, ← hz]
      have e4 : cs0.toList[k]? = ((cs0.toList.drop k).take 1)[0]? := by rw [List.getElem?_take, if_pos (by omega), List.getElem?_drop, Nat.add_zero]
      rw [e1] at e4
      rw [← Array.getElem?_toList, e4]
      rfl
    exact ⟨block_lt_of_cell (key 0 (by omega)), key⟩
  · rcases open_map Tryd.underlying102 hd1 with ⟨_, hx⟩ | ⟨bm, es, clock, m, rfl, hcs, hb, _, F, hx⟩
    · simp [Rows.laid_e2e_mutapilaw_arguments] at hx
    simp only [Prod.mk.injEq] at hx
    have hcell : W.cell? ⟨2, 0, none⟩ = some (.map (some bm)) := by
      have := World.var?_cell hg1 hv1 0
      rw [Array.eq_one_of_toList hcs] at this
      simpa using this
    have look : ∀ (c : Bool) (wy : World), wy.heap[bm]? = W.heap[bm]? → ∀ k : Nat, k < 9 → (Instr.lookup 102 (.map (some bm)) (.int .u8 (k : Int)) c).run Tryd.prog wy = .ok (if c then .tuple #[.int .i64 (ari k : Int), .bool true] else .int .i64 (ari k : Int)) wy := fun c wy hy k hk => by
      have zero : (zeroValue 3).run Tryd.prog wy = .ok (.int .i64 0) wy := by kernel_rfl
      have hkey : keyOf Tryd.prog 28 (.int .u8 (k : Int)) = some (.int .u8 (k : Int)) := Maps.keyOf_int_mk Tryd.underlying28 (by
        rcases (by omega : k = 0 ∨ k = 1 ∨ k = 2 ∨ k = 3 ∨ k = 4 ∨ k = 5 ∨ k = 6 ∨ k = 7 ∨ k = 8) with rfl | rfl | rfl | rfl | rfl | rfl | rfl | rfl | rfl <;> rfl)
      have e2 : (Rows.laid_e2e_mutapilaw_arguments (H := Unit)).atKey (.int .u8 (k : Int)) .nil = .lit (.int .i64 (ari k : Int)) := by
        rcases (by omega : k = 0 ∨ k = 1 ∨ k = 2 ∨ k = 3 ∨ k = 4 ∨ k = 5 ∨ k = 6 ∨ k = 7 ∨ k = 8) with rfl | rfl | rfl | rfl | rfl | rfl | rfl | rfl | rfl <;> rfl
      rcases Maps.fit_look (w := wy) c law Tryd.underlying102 zero (hy.trans hb) F hkey with ⟨_, _, hat⟩ | ⟨e0, y, _, _, hrun, hRv, hat, _⟩
      · have := hat .nil
        rw [← hx.1, e2] at this
        cases this
      · obtain ⟨r, hr, rfl, _⟩ := elemAt_int Tryd.underlying3 hRv
        have := hat .nil
        rw [← hx.1, e2] at this
        cases this
        rw [hr] at hrun
        exact hrun
    exact ⟨bm, block_lt_of_cell hcell, (Array.getElem?_eq_some_iff.1 hb).1, hcell, look false, look true⟩
end Go.Proofs.Qxb6500889aDoor.everyByteStringDecodes
