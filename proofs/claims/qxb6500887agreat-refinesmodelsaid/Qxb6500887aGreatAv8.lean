/- Decode and Sizes answer as the model's, plainly. -/
import Derived.Test.Qxb6500887aGreatAv7
namespace Go.Proofs.Qxb6500887aGreat
open Go.RowKit
set_option linter.unusedSimpArgs false
set_option linter.unusedVariables false
theorem w64_small {x : Int} (h0 : 0 ≤ x) (h : x < 9223372036854775808) : wrap64 x = x := by unfold wrap64; omega
theorem u64_small {x : Int} (h0 : 0 ≤ x) (h : x < 18446744073709551616) : IntKind.u64.wrap x = x := by rw [IntKind.wrap_u64]; omega
theorem rd63 {n : Int} (h : 1 ≤ n ∧ n ≤ 8192) : rsG 0 (IntKind.u64.wrap (1 + n)) (IntKind.u64.wrap (wrap64 (wrap64 ((1 + n + 15) / 16 * 65536) + (1 + n + 511) / 512))) = szR n := by
  unfold szR
  rw [if_neg (by omega), rsG_ok, w64_small (x := (1 + n + 15) / 16 * 65536) (by omega) (by omega), w64_small (by omega) (by omega), u64_small (x := 1 + n) (by omega) (by omega), u64_small (by omega) (by omega), Int.add_comm 1 n]
  rw [show (n + 1 + 15) / 16 * 65536 + (n + 1 + 511) / 512 = ((((n.toNat + 1 + 15) / 16) * 65536 + (n.toNat + 1 + 511) / 512 : Nat) : Int) by omega]
section
variable {S : AS} {a b c : Int}
theorem rd62 {cd p1 p2 p3 p4 : Int} (h : (InH a ∧ cd = 0 ∧ p1 = (a - 65536) / 512 ∧ p2 = (a - 65536) / 16 ∧ p3 = (a - 65536) / 16 % 32 ∧ p4 = (a - 65536) % 16) ∨ (¬ InH a ∧ cd = 1)) : rsG cd (IntKind.u64.wrap (wrap64 (wrap64 (p1 * 65536) + p2))) (IntKind.u64.wrap (wrap64 (wrap64 (p3 * 65536) + p4))) = (stR (abE S) 62 a b c).1 := by
  show _ = deR a
  unfold deR
  rcases h with ⟨h1, h2, h3, h4, h5, h6⟩ | ⟨h1, h2⟩
  · rw [if_pos (wantW_iff.2 h1), h2, rsG_ok]
    obtain ⟨k1, k2⟩ := wIx_of h1
    generalize wIx a = k at *
    have e : a - 65536 = (k : Int) := by omega
    rw [e] at h3 h4 h5 h6
    rw [w64_small (x := p1 * 65536) (by omega) (by omega), w64_small (x := p3 * 65536) (by omega) (by omega), w64_small (by omega) (by omega), w64_small (by omega) (by omega), u64_small (by omega) (by omega), u64_small (by omega) (by omega)]
    rw [show p1 * 65536 + p2 = ((k / 512 * 65536 + k / 16 : Nat) : Int) by omega, show p3 * 65536 + p4 = (((k / 16 - k / 512 * 32) * 65536 + (k - k / 16 * 16) : Nat) : Int) by omega]
  · rw [if_neg (fun q => h1 (wantW_in q)), wantW_no h1, h2]; rfl
end
end Go.Proofs.Qxb6500887aGreat
