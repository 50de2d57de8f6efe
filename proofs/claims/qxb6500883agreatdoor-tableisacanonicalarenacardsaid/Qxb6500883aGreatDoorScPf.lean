/- The built table's structure. -/
import Derived.Test.Qxb6500883aGreatDoorScPe
namespace Go.Proofs.Qxb6500883aGreatDoor
open Go.RowKit
set_option linter.unusedSimpArgs false
set_option linter.unusedVariables false
theorem Bld.ne {F : FS} {vf : Nat → Nat} {n : Nat} (hW : FWf n F) (hv : ∀ c, vf c < 18446744073709551616) (hC : ∀ (d : Nat) (x : DN), F.decls[d]? = some x → x.sort = 2 → fldsOf F x ≠ []) (hU : ∀ (r : Nat) (x : TN), F.types[r]? = some x → x.form = 7 → kids F x ≠ []) {i : Nat} {B : BS} {bn : ByteArray → Option Nat} (h : Bld F vf i B bn) : B.T.types.length ≤ 200000 → NeT B.T := by
  induction h with
  | zero =>
    intro _ i x h8 hx
    have := (List.getElem?_eq_some_iff.1 hx).1
    have hl : B0.T.types.length = 8 := by show ((List.range 8).map biR).length = 8; simp
    omega
  | con _ _ _ _ ih => exact fun hl => ih hl
  | typ h1 h2 h3 h4 ih =>
    intro hl
    have hl1 := Nat.le_trans h4.ext.len.1 hl
    exact h4.ne hW hC hU (h1.ti hW hv hl1).ok (ih hl1)
theorem TI.tstr {B : BS} (h : TI B) (hn : NeT B.T) : TStr B.T := fun i x h8 hx => (h.ty i x h8 hx).str (hn i x h8 hx)
end Go.Proofs.Qxb6500883aGreatDoor
