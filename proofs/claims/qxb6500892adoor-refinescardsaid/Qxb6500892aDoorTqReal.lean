/- newReal; what a step leaves alone. -/
import Derived.Test.Qxb6500892aDoorTqLook
namespace Go.Proofs.Qxb6500892aDoor
open Go.RowKit
set_option linter.unusedSimpArgs false
set_option linter.unusedVariables false

/-- The default configuration lies in its variable. -/
structure Dflt (w : World) : Prop where
  lt : 0 < w.heap.size
  c0 : w.cell? ⟨0, 0, none⟩ = some (.int .i64 48)
  c1 : w.cell? ⟨0, 1, none⟩ = some (.int .i64 12)
  c2 : w.cell? ⟨0, 2, none⟩ = some (.int .i64 24)
  c3 : w.cell? ⟨0, 3, none⟩ = some (.int .i64 8)
def RealP (w : World) (y : Ending) (w' : World) : Prop := ∃ r : Nat, y = .returned (.pointer (some ⟨r, 0, none⟩)) ∧ Hid (∃ e gn gb s L C, RS w r e gn gb s L C w' ∧ NewS 48 12 24 8 s L)
set_option maxRecDepth 100000 in
set_option maxHeartbeats 1000000 in
theorem newReal_walk {w : World} (hd : Dflt w) : Calls Tryd.prog 8 #[] w fun y w' => RealP w y w' := by
  have c0 := hd.c0
  have c1 := hd.c1
  have c2 := hd.c2
  have c3 := hd.c3
  have HN := hid (new_walk 48 12 24 8 w)
  clear hd
  go_enter Tryd.func8, Tryd.ntmps8
  go_wp2_with fail
  refine HN.out.mono ?_
  rintro y w1 hy
  rcases hy with ⟨hcf, _⟩ | ⟨hcf, e, gn, gb, s, L, C, rfl, hE, hb, l1, l2, l3, hN⟩
  · exact absurd hcf (by decide)
  obtain ⟨r, hr⟩ : ∃ r, w1.heap.size = r := ⟨_, rfl⟩
  have HG2 : Hid (∃ e2 gn gb s L C, RS w r e2 gn gb s L C (w1.alloc (.cells #[.pointer (some ⟨e, 0, none⟩)] 44)) ∧ NewS 48 12 24 8 s L) := hid (by
    have hb1 := nbel w1 (.cells #[.pointer (some ⟨e, 0, none⟩)] 44)
    have hbk := Blk.new w1 [.pointer (some ⟨e, 0, none⟩)] 44
    rw [hr] at hbk
    exact ⟨e, gn, gb, s, L, C, ⟨hbk, hE.em.below hb1, hE.ei, hb.trans (hb1.mono hb.size), by have := hb.size; omega, l1, l2, l3⟩, hN⟩)
  clear hE hb l1 l2 l3 hN hcf HN c0 c1 c2 c3
  go_wp2
  go_ret
  exact ⟨r, rfl, HG2⟩
end Go.Proofs.Qxb6500892aDoor
