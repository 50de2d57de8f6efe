/- The built table is in order. -/
import Derived.Test.Qxb6500883aGreatDoorScPc
namespace Go.Proofs.Qxb6500883aGreatDoor
open Go.RowKit
set_option linter.unusedSimpArgs false
set_option linter.unusedVariables false
theorem TI.zero : TI B0 := by
  have hl : B0.T.types.length = 8 := by show ((List.range 8).map biR).length = 8; simp
  refine ⟨⟨by omega, fun d => .inl rfl, fun k i h => (by cases h), fun k i h => (by cases h)⟩, fun i hi => ?_, fun i x h8 hx => ?_, fun k i h => (by cases h), fun k i _ h8 hx => ?_, fun ids i _ h => (by cases h), fun ids i lo h8 hx _ => ?_⟩
  · show ((List.range 8).map biR)[i]? = _
    rw [List.getElem?_map, List.getElem?_range hi]
    rfl
  · have := (List.getElem?_eq_some_iff.1 hx).1; omega
  · have := (List.getElem?_eq_some_iff.1 hx).1; omega
  · have := (List.getElem?_eq_some_iff.1 hx).1; omega
theorem TI.dcl {B : BS} (h : TI B) (d : DC) : TI (B.dcl d) :=
  ⟨⟨h.ok.t, h.ok.d, h.ok.s, h.ok.u⟩, h.hd, fun i x h8 hx => by
    cases h.ty i x h8 hx with
    | ser h1 h2 h3 h4 => exact .ser h1 h2 h3 h4
    | bit h1 h2 h3 => exact .bit h1 h2 h3
    | con h1 h2 h3 => exact .con h1 h2 h3
    | uni h1 h2 h3 => exact .uni h1 h2 h3, h.sh, h.hs, h.un, h.nu⟩
theorem Bld.ti {F : FS} {vf : Nat → Nat} {n : Nat} (hW : FWf n F) (hv : ∀ c, vf c < 18446744073709551616) {i : Nat} {B : BS} {bn : ByteArray → Option Nat} (h : Bld F vf i B bn) : B.T.types.length ≤ 200000 → TI B := by
  induction h with
  | zero => exact fun _ => TI.zero
  | con _ _ _ _ ih => exact fun hl => (ih hl).dcl _
  | typ h1 h2 h3 h4 ih => exact fun hl => (h4.ti hW hv (ih (Nat.le_trans h4.ext.len.1 hl)) hl).dcl _
end Go.Proofs.Qxb6500883aGreatDoor
