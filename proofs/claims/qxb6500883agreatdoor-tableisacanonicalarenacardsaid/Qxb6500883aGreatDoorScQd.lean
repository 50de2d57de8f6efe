/- Check and Compile. -/
import Derived.Test.Qxb6500883aGreatDoorScQc
namespace Go.Proofs.Qxb6500883aGreatDoor
open Go.RowKit
set_option linter.unusedSimpArgs false
set_option linter.unusedVariables false
/-- What Check comes to. -/
def CkQ (bs : List UInt8) (n : Nat) (F : FS) (w0 : World) (e : Ending) (w' : World) : Prop :=
  (∃ tB, e = .returned (.tuple #[.pointer (some ⟨tB, 0, none⟩), .pointer none]) ∧ Hid ((∃ n0 τ V T ga mn mf al bn, TbG n0 τ w' tB V T ga mn mf al bn ∧ w0.heap.size ≤ n0 ∧ AcT F T al bn) ∧ Below w0.heap.size w0 w')) ∨
  (∃ q, e = .returned (.tuple #[.pointer none, .pointer (some ⟨q, 0, none⟩)]) ∧ Hid (Below w0.heap.size w0 w' ∧ DgW F))
section
variable {N mg : Nat} {ρ ρ' : Rl} {w w' w0 w1 w2 : World} {l : PL} {bs : List UInt8} {F : FS} {U : FV} {c gP i : Nat} {V V' : CV} {errs : List (Nat × Nat)}
set_option maxRecDepth 100000 in
set_option maxHeartbeats 2000000 in
theorem checkW (h : PR N mg ρ w l bs F) (hc : DgC l.n F) : Calls Tryz.prog 42 #[.pointer (some ⟨l.f, 0, none⟩)] w (CkQ bs l.n F w) := by
  have HD := hid (diagnoseW h hc)
  clear h hc
  go_enter Tryz.func42, Tryz.ntmps42
  go_wp2_with fail
  refine HD.out.mono ?_
  rintro e w2 (⟨tB, rfl, HQ⟩ | ⟨ga, m, qa, rfl, hm, hm2, HQ⟩)
  · clear HD
    go_wp2
    go_ret2
    exact .inl ⟨tB, rfl, HQ⟩
  · clear HD
    obtain ⟨q, k, pos, c0, _⟩ := HQ.out.1 0 hm
    have d1 : decide ((0 : Int) < (m : Int)) = true := decide_eq_true (by omega)
    have i1 : (0 : Int) < (m : Int) := by omega
    have HB := hid HQ.out.2.2
    clear HQ
    go_upto_region 3 with fail
    go_quiet (fail)
    have HB2 : Hid (Below w.heap.size w (w2.drewN nq) ∧ DgW F) := hid ⟨HB.out.1.trans (Drew.below ⟨nq, rfl⟩ _), HB.out.2⟩
    clear HB
    go_wp2
    go_ret2
    exact .inr ⟨q, rfl, HB2⟩
end
end Go.Proofs.Qxb6500883aGreatDoor
