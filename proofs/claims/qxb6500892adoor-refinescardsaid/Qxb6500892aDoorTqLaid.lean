/- The default configuration, read off the rows' condition. -/
import Derived.Test.Qxb6500892aDoorRows
import Derived.Test.Qxb6500892aDoorCards
import Derived.Test.Qxb6500892aDoorTie
import Derived.Test.Qxb6500892aDoorTqReal
import Derived.WalkKit
import Derived.ProofKit
import Derived.Below
import Derived.SizedLaws
import Derived.Carry
import Derived.LaidMore
import Derived.SevenTiedAt
import Derived.Stop.Joined
namespace Go.Proofs.Qxb6500892aDoor
open Go.ChangeShapes Go.WideShapes Go.ChangeAt Go.RowKit
set_option linter.unusedVariables false

abbrev laidL : List (String × DataW Unit) := [("e2e/api.Default", Rows.laid_e2e_api_Default)]
theorem own : ownKnob Tryd.prog.godebug = none := by kernel_rfl
theorem laidOut : laidOutB Tryd.prog = true := by kernel_rfl
theorem gDef : Tryd.prog.globalNamed "e2e/api.Default" = some 0 := by kernel_rfl
theorem tDef : (Tryd.prog.globals[0]?).map (·.type) = some 31 := by kernel_rfl
/-- The door's own heap meets the condition. -/
theorem door_met (os : Os) (args : Array Value) : laidMetH Tryd.prog laidL ((World.doorLaid Tryd.prog 600 os).forCall (fun _ _ => 0) ⟨#[], args, []⟩).memory :=
  laidMetH_of_parts3 (fuel := 8) (laidMet_of_run' 8 (by kernel_rfl) (by kernel_rfl)) (by kernel_rfl) (by kernel_rfl)

set_option maxRecDepth 100000 in
theorem of_laid {W : World} (h : laidMetH Tryd.prog laidL W) : Dflt W := by
  have h' : laidMet Tryd.prog laidL W := h
  obtain ⟨ps, hv, _⟩ := h'
  obtain ⟨g, t, cs, fuel, p, q, hg, ht, hvar, hd, _⟩ := hv
  obtain rfl := Option.some.inj (gDef.symm.trans hg)
  obtain rfl := Option.some.inj (tDef.symm.trans ht)
  have hd' : DataW.trod (fun _ => ()) Tryd.prog W 0 (fun _ => true) false fuel 31 cs.toList = some (.agg [.lit (.int .i64 48), .lit (.int .i64 12), .lit (.int .i64 24), .lit (.int .i64 8)], p) := hd
  obtain ⟨zs, m2, _, hxx, hlen, hzs, hf⟩ := DataW.trod_struct Tryd.underlying31 hd'
  rw [cells_cfg] at hlen
  generalize hcs : cs.toList = l at hlen hf
  match l, hlen, zs, hzs with
  | [c0, c1, c2, c3], _, [z0, z1, z2, z3], _ =>
    have k0 : DataW.trod (fun _ => ()) Tryd.prog W 0 (fun _ => true) false m2 3 (([c0, c1, c2, c3].drop 0).take (Tryd.prog.cellsOf 3)) = some z0 := hf 0 _ rfl
    have k1 : DataW.trod (fun _ => ()) Tryd.prog W 0 (fun _ => true) false m2 3 (([c0, c1, c2, c3].drop 1).take (Tryd.prog.cellsOf 3)) = some z1 := hf 1 _ rfl
    have k2 : DataW.trod (fun _ => ()) Tryd.prog W 0 (fun _ => true) false m2 3 (([c0, c1, c2, c3].drop 2).take (Tryd.prog.cellsOf 3)) = some z2 := hf 2 _ rfl
    have k3 : DataW.trod (fun _ => ()) Tryd.prog W 0 (fun _ => true) false m2 3 (([c0, c1, c2, c3].drop 3).take (Tryd.prog.cellsOf 3)) = some z3 := hf 3 _ rfl
    rw [cells_int] at k0 k1 k2 k3
    obtain ⟨v0, e0, g0, _⟩ := DataW.trod_int Tryd.underlying3 k0
    obtain ⟨v1, e1, g1, _⟩ := DataW.trod_int Tryd.underlying3 k1
    obtain ⟨v2, e2, g2, _⟩ := DataW.trod_int Tryd.underlying3 k2
    obtain ⟨v3, e3, g3, _⟩ := DataW.trod_int Tryd.underlying3 k3
    subst g0 g1 g2 g3
    simp at e0 e1 e2 e3 hxx
    obtain ⟨⟨rfl, rfl, rfl, rfl⟩, _⟩ := hxx
    subst e0 e1 e2 e3
    have hc : ∀ i : Nat, W.cell? ⟨0, i, none⟩ = [Value.int .i64 48, .int .i64 12, .int .i64 24, .int .i64 8][i]? := fun i => by
      rw [World.var?_cell hg hvar i, ← hcs, Array.getElem?_toList]
    exact ⟨block_lt_of_cell (hc 0), hc 0, hc 1, hc 2, hc 3⟩
end Go.Proofs.Qxb6500892aDoor
