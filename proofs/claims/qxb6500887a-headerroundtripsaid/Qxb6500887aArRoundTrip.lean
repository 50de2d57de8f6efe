/- The walk of arenalaw.HeaderRoundTrip. -/
import Derived.Test.Qxb6500887aArHeader
import Derived.RowKit3
namespace Go.Proofs.Qxb6500887a
open Go.RowKit
set_option linter.unusedSimpArgs false
set_option linter.unusedVariables false

set_option maxHeartbeats 400000 in
theorem roundTrip_walk (w : World) : Calls Try.prog 8 #[] w fun e w' => e = .returned (.bool true) ∧ Below w.heap.size w w' := by
  go_enter Try.func8, Try.ntmps8
  go_wp2
  go_loopw [1] (fun i wr => ∃ s : Nat, i = .int .i64 s ∧ 1 ≤ s ∧ s ≤ 8193 ∧ Below w.heap.size w wr) (fun i _ => 8193 - (intOf i).toNat)
  case atStart => exact ⟨1, rfl, by omega, by omega, Below.refl _ _⟩
  case round =>
    obtain ⟨s, rfl, h1, h2, hb⟩ := hrel
    have HB := (show Hid _ from hb)
    clear hb
    by_cases hlt : s ≤ 8192
    · have hd : decide ((s : Int) ≤ 8192) = true := decide_eq_true (by omega)
      go_wp2
      go_loopw [2] (fun i wr => ∃ r : Nat, i = .int .i64 r ∧ r ≤ s + 1 ∧ Below w.heap.size w wr) (fun i _ => s + 1 - (intOf i).toNat)
      case atStart => exact ⟨0, rfl, by omega, HB.out⟩
      case round =>
        rename_i w0
        obtain ⟨r, rfl, h3, hb⟩ := hrel
        have HB := (show Hid _ from hb)
        clear hb
        by_cases hlt2 : r ≤ s
        · obtain ⟨e1, e2, e3, e4, e5⟩ := enc_dec (s : Int) (r : Int) (by omega) (by omega) (by omega) (by omega)
          have E1 := (show Hid _ from e1)
          clear e1
          go_wp2_with fail
          refine (encode_walk _ _ _ (by omega) (by omega) (by omega) (by omega)).mono ?_
          rintro e w1 ⟨rfl, hb1⟩
          go_wp2_with fail
          refine (decode_good _ _ e4 e5 E1.out).mono ?_
          rintro e w2 ⟨rfl, hb2⟩
          rw [e2, e3]
          go_wp2
          exact ⟨⟨r + 1, by go_num, by omega, ((HB.out.trans (hb1.mono HB.out.size)).trans (hb2.mono (Nat.le_trans HB.out.size hb1.size))).alloc (Nat.le_trans (Nat.le_trans HB.out.size hb1.size) hb2.size) _⟩, by simp [intOf]; omega⟩
        · go_wp2
          exact ⟨⟨s + 1, by go_num, by omega, by omega, HB.out⟩, by simp [intOf]; omega⟩
    · go_wp2
      go_ret
      exact ⟨rfl, HB.out⟩
end Go.Proofs.Qxb6500887a
