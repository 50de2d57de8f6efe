/- soundDecode and the law HeaderDecodeIsSound. -/
import Derived.Test.Qxb6500887aGreatArOps
import Derived.Test.Qxb6500887aGreatArHeader
import Derived.Deep.QuietTactic
import Derived.BigQuiet
import Derived.Deep.DeepCutAuto
import Derived.Test.Qxb6500887aGreatDrew
namespace Go.Proofs.Qxb6500887aGreat
open Go.RowKit
set_option linter.unusedSimpArgs false
set_option linter.unusedVariables false

theorem encode_any (size refs : Int) (w : World) :
    Calls Tryz.prog 64 #[.int .i64 size, .int .i64 refs] w fun e w' => ∃ v : Int, e = .returned (.tuple #[.int .u64 v, .int .u8 (hdrCheck size refs)]) ∧ Below w.heap.size w w' := by
  by_cases h : hdrCheck size refs = 0
  · rw [h]
    have h' := h
    unfold hdrCheck at h'
    split at h'
    · exact absurd h' (by decide)
    · split at h'
      · exact absurd h' (by decide)
      · exact (encode_walk size refs w (by omega) (by omega) (by omega) (by omega)).mono fun e w' h => ⟨_, h⟩
  · exact (encode_bad size refs w (by rw [bne_iff_ne]; exact h)).mono fun e w' h => ⟨_, h⟩

theorem wrap_U64 (x : Int) : U64 (IntKind.u64.wrap x) := by rw [IntKind.wrap_u64]; unfold U64; omega
theorem xor_U64 (x y : Int) (hx : U64 x) (hy : U64 y) : U64 (bits .xor .u64 x y) := by
  rw [u64_xor x y hx.1 hx.2 hy.1 hy.2]
  have := Nat.xor_lt_two_pow (n := 64) (x := x.toNat) (y := y.toNat) (by have := hx.1; have := hx.2; omega) (by have := hy.1; have := hy.2; omega)
  unfold U64
  omega
theorem eight (v0 v1 v2 v3 v4 v5 v6 v7 : Int) (h0 : U64 v0) (h1 : U64 v1) (h2 : U64 v2) (h3 : U64 v3) (h4 : U64 v4) (h5 : U64 v5) (h6 : U64 v6) (h7 : U64 v7) :
    ∀ j, j < 8 → ∃ x, (#[.int .u64 v0, .int .u64 v1, .int .u64 v2, .int .u64 v3, .int .u64 v4, .int .u64 v5, .int .u64 v6, .int .u64 v7] : Array Value)[j]? = some (.int .u64 x) ∧ U64 x := by
  intro j hj
  match j, hj with
  | 0, _ => exact ⟨v0, rfl, h0⟩
  | 1, _ => exact ⟨v1, rfl, h1⟩
  | 2, _ => exact ⟨v2, rfl, h2⟩
  | 3, _ => exact ⟨v3, rfl, h3⟩
  | 4, _ => exact ⟨v4, rfl, h4⟩
  | 5, _ => exact ⟨v5, rfl, h5⟩
  | 6, _ => exact ⟨v6, rfl, h6⟩
  | 7, _ => exact ⟨v7, rfl, h7⟩

theorem number_walk (x : Int) (h : U64 x) (w : World) :
    Calls Tryz.prog 26 #[.int .u64 x] w fun e w' => e = .returned (.int .i64 (wrap64 x)) ∧ w' = w := by
  go_enter Tryz.func26, Tryz.ntmps26
  go_wp2
  go_ret
  exact ⟨rfl, rfl⟩

theorem dec_enc (x : Int) (h0 : 0 ≤ x) (h1 : x < 18446744073709551616) (h : isHdr x) : 1 ≤ decSize x ∧ decSize x ≤ 8192 ∧ 0 ≤ decRefs x ∧ decRefs x ≤ decSize x ∧ encW (decSize x) (decRefs x) = x := by
  obtain ⟨g1, g2, g3⟩ := h
  have e : encW (decSize x) (decRefs x) = x := by unfold encW decSize decRefs; omega
  unfold hdrCheck at g3
  split at g3
  · exact absurd g3 (by decide)
  · split at g3
    · exact absurd g3 (by decide)
    · exact ⟨by omega, by omega, by omega, by omega, e⟩

end Go.Proofs.Qxb6500887aGreat
