/- zzSmall1. -/
import Derived.Test.Qxb6500891aPtOps
namespace Go.Proofs.Qxb6500891a
open Go.RowKit
set_option linter.unusedSimpArgs false
set_option linter.unusedVariables false

set_option maxRecDepth 100000 in
set_option maxHeartbeats 1000000 in
theorem small_walk (a : Option Addr) (n c : Nat) (l : List POp) (w : World) (hs : Script w a n c l) :
    Calls Try.prog 8 #[.slice a n c] w fun e w' => ∃ r : Bool, e = .returned (.bool r) ∧ w' = w ∧ (r = true → n ≤ 65536) := by
  have hn := hs.1.2.2.1.1
  have HS := hid hs
  clear hs
  by_cases hsm : 65536 < n
  · have d : decide (65536 < (n : Int)) = true := decide_eq_true (by omega)
    go_enter Try.func8, Try.ntmps8
    go_wp2
    go_ret
    exact ⟨false, rfl, rfl, fun h => by cases h⟩
  have d : decide (65536 < (n : Int)) = false := decide_eq_false (by omega)
  go_enter Try.func8, Try.ntmps8
  go_wp2_with fail
  go_loopw [3, 4] (fun v u wr => wr = w ∧ ∃ k s : Nat, k ≤ n ∧ s ≤ 65536 ∧ v = .int .i64 (s : Int) ∧ u = .int .i64 (k : Int)) (fun _ u _ => n - (intOf u).toNat)
  case atStart => exact ⟨rfl, 0, n, by omega, by omega, rfl, rfl⟩
  case round =>
    obtain ⟨rfl, k, s, hk, hs, rfl, rfl⟩ := hrel
    by_cases hlt : k < n
    · obtain ⟨o, ho, hok, b, off, rfl, hb, c0, c1, c2⟩ := HS.out.at hlt
      have h1 := hok.ra.1.2.2.1.1
      have h2 := hok.rb.1.2.2.1.1
      generalize o.aa = aa at *
      generalize o.an = an at *
      generalize o.ac = ac at *
      generalize o.ba = ba at *
      generalize o.bn = bn at *
      generalize o.bc = bc at *
      have i1 : (k : Int) < (n : Int) := by omega
      have dk : decide ((k : Int) < (n : Int)) = true := decide_eq_true i1
      clear ho hok
      by_cases e1 : 65536 < s + an
      · have d1 : decide (65536 < (s : Int) + (an : Int)) = true := decide_eq_true (by omega)
        go_wp2
        go_ret
        exact ⟨false, rfl, rfl, fun h => by cases h⟩
      · have d1 : decide (65536 < (s : Int) + (an : Int)) = false := decide_eq_false (by omega)
        by_cases e2 : 65536 < s + an + bn
        · have d2 : decide (65536 < (s : Int) + (an : Int) + (bn : Int)) = true := decide_eq_true (by omega)
          go_wp2
          go_ret
          exact ⟨false, rfl, rfl, fun h => by cases h⟩
        · have d2 : decide (65536 < (s : Int) + (an : Int) + (bn : Int)) = false := decide_eq_false (by omega)
          go_wp2
          exact ⟨⟨by first | rfl | trivial, k + 1, s + an + bn, by omega, by omega, by go_num, by go_num⟩, by simp [intOf]; omega⟩
    · have hkn : k = n := by omega
      subst hkn
      have dk : decide ((k : Int) < (k : Int)) = false := decide_eq_false (by omega)
      go_wp2
      go_ret
      exact ⟨true, rfl, rfl, fun _ => by omega⟩
end Go.Proofs.Qxb6500891a
