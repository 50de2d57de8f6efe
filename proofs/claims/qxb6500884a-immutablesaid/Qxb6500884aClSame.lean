/- sameIntervals at equal lists. -/
import Derived.Test.Qxb6500884aClRel
namespace Go.Proofs.Qxb6500884a
open Go.RowKit
set_option linter.unusedSimpArgs false
set_option linter.unusedVariables false

set_option maxRecDepth 100000 in
set_option maxHeartbeats 2000000 in
theorem sameIvs_walk (a1 : Option Addr) (n1 c1 : Nat) (a2 : Option Addr) (n2 c2 : Nat) (l : List (Int × Int)) (w : World) (hr1 : IvRow w a1 n1 c1 l) (hr2 : IvRow w a2 n2 c2 l) :
    Calls Try.prog 30 #[.slice a1 n1 c1, .slice a2 n2 c2] w fun e w' => e = .returned (.bool true) ∧ Below w.heap.size w w' := by
  have HR1 := hid hr1
  have HR2 := hid hr2
  have hl1 := hr1.len
  have hl2 := hr2.len
  have hn47 := hr1.1.2.2.1.1
  have hnn : n2 = n1 := by omega
  subst hnn
  clear hr1 hr2
  have dn : ((n2 : Int) != (n2 : Int)) = false := by simp
  go_enter Try.func30, Try.ntmps30
  go_upto_region 4 with fail
  go_loopw [13] (fun i wr => ∃ k : Nat, k ≤ n2 ∧ i = .int .i64 k ∧ Hid (Below w.heap.size w wr)) (fun i _ => n2 - (intOf i).toNat)
  case atStart => exact ⟨0, Nat.zero_le _, rfl, hid (Below.refl _ _)⟩
  case round =>
    obtain ⟨k, hk, rfl, HO⟩ := hrel
    by_cases hlt : k < n2
    rotate_left
    · as_aux_lemma =>
      have dk : decide ((k : Int) < (n2 : Int)) = false := decide_eq_false (by omega)
      go_wp2
      go_ret
      exact ⟨rfl, HO.out⟩
    have dk : decide ((k : Int) < (n2 : Int)) = true := decide_eq_true (by omega)
    have i1 : (k : Int) < (n2 : Int) := by omega
    obtain ⟨p, hp, f1, f2, bA, offA, rfl, hbA, e1, e2⟩ := (HR1.out.below HO.out).get hlt
    obtain ⟨p', hp', g1, g2, bB, offB, rfl, hbB, e3, e4⟩ := (HR2.out.below HO.out).get hlt
    rw [hp] at hp'
    cases hp'
    obtain ⟨x, y⟩ := p
    dsimp only at e1 e2 e3 e4
    have hneq := fun w => neq_iv x y x y w
    rw [decide_eq_true rfl, Bool.not_true] at hneq
    have t1 : ∀ nn, (wr.drewN nn).cell? ⟨bA, offA + k * 2, none⟩ = some (.int .i64 x) := fun nn => e1
    have t2 : ∀ nn, (wr.drewN nn).cell? ⟨bA, offA + k * 2 + 1, none⟩ = some (.int .i64 y) := fun nn => e2
    have t3 : ∀ nn, (wr.drewN nn).cell? ⟨bB, offB + k * 2, none⟩ = some (.int .i64 x) := fun nn => e3
    have t4 : ∀ nn, (wr.drewN nn).cell? ⟨bB, offB + k * 2 + 1, none⟩ = some (.int .i64 y) := fun nn => e4
    clear hp e1 e2 e3 e4
    go_upto_region 6 with fail
    go_quiet (fail)
    have HO3 := hid (HO.out.trans ((Drew.below ⟨nq, rfl⟩ _ : Below wr.heap.size wr (wr.drewN nq)).mono HO.out.size))
    generalize wr.drewN nq = w3 at HO3 ⊢
    clear t1 t2 t3 t4
    go_wp2
    exact ⟨⟨k + 1, by omega, by go_num, HO3⟩, by simp [intOf]; omega⟩
end Go.Proofs.Qxb6500884a
