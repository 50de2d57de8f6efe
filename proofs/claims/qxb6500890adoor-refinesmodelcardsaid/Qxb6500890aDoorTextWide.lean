/- Wide numbers: four digits of base 2^32, and a sign. -/
import Derived.Test.Qxb6500890aDoorTextDiv
import Derived.Test.Qxb6500890aDoorDrew
import Derived.Test.Qxb6500890aDoorBlk
import Derived.WalkKit
import Derived.WalkSpells
import Derived.KernelRfl
import Derived.Deep.QuietTactic
import Derived.BigQuiet
import Derived.Laws.Bits64b
namespace Go.Proofs.Qxb6500890aDoor
open Go.RowKit
set_option linter.unusedSimpArgs false
set_option linter.unusedVariables false

def dg (v i : Nat) : Nat := v / 4294967296 ^ i % 4294967296
def dgV (v i : Nat) : Value := .int .u32 (dg v i : Nat)
def magL (v : Nat) : List Value := [dgV v 0, dgV v 1, dgV v 2, dgV v 3]
def magV (v : Nat) : Value := .agg (magL v).toArray
def wideL (z : Int) : List Value := .bool (decide (z < 0)) :: magL z.natAbs
def wideV (z : Int) : Value := .agg (wideL z).toArray

theorem dg_lt (v i : Nat) : dg v i < 4294967296 := Nat.mod_lt _ (by decide)
theorem magL_get (v : Nat) {i : Nat} (h : i < 4) : (magL v)[i]? = some (dgV v i) := by
  rcases (by omega : i = 0 ∨ i = 1 ∨ i = 2 ∨ i = 3) with rfl | rfl | rfl | rfl <;> rfl
theorem dg0 (v : Nat) : dg v 0 = v % 4294967296 := by simp [dg]
theorem dg1 (v : Nat) : dg v 1 = v / 4294967296 % 4294967296 := by simp [dg]
theorem dg2 (v : Nat) : dg v 2 = v / 18446744073709551616 % 4294967296 := by simp [dg]
theorem dg3 (v : Nat) : dg v 3 = v / 79228162514264337593543950336 % 4294967296 := by simp [dg]
theorem and_half (u : Nat) : bits .and .u64 (u : Int) 4294967295 = (u : Int) % 4294967296 ∨ 18446744073709551616 ≤ u := by
  by_cases h : u < 18446744073709551616
  · left
    have := bits_and_u64_nat u 4294967295 h (by decide)
    have e : u &&& 4294967295 = u % 4294967296 := Nat.and_two_pow_sub_one_eq_mod u 32
    rw [e] at this
    simpa using this
  · right; omega

set_option maxRecDepth 100000 in
set_option maxHeartbeats 1000000 in
theorem fromUint64_walk (u : Nat) (hu : u < 18446744073709551616) (w : World) :
    Calls Tryd.prog 87 #[.int .u64 (u : Int)] w fun e w' => e = .returned (magV u) ∧ Below w.heap.size w w' := by
  have f1 := (and_half u).resolve_right (by omega)
  have e0 : dg u 0 = u % 4294967296 := dg0 u
  have e1 : dg u 1 = u / 4294967296 := by rw [dg1]; omega
  have e2 : dg u 2 = 0 := by rw [dg2]; omega
  have e3 : dg u 3 = 0 := by rw [dg3]; omega
  have HE : Hid (magV u = .agg #[.int .u32 ((u : Int) % 4294967296), .int .u32 ((u : Int) / 4294967296), .int .u32 0, .int .u32 0]) := hid (by
    unfold magV magL dgV
    rw [e0, e1, e2, e3]
    simp)
  clear e0 e1 e2 e3
  go_enter Tryd.func87, Tryd.ntmps87
  go_wp2
  refine bodyPost_ret (v := magV u) ?_ rfl ⟨rfl, Below.alloc (Below.refl _ _) (Nat.le_refl _) _⟩
  rw [HE.out]
  simp [results, Tryd.results87, go_sem]

theorem zero_dg {v : Nat} (hv : v < 340282366920938463463374607431768211456) : (v = 0) ↔ (dg v 0 = 0 ∧ dg v 1 = 0 ∧ dg v 2 = 0 ∧ dg v 3 = 0) := by
  rw [dg0, dg1, dg2, dg3]
  omega

set_option maxRecDepth 100000 in
set_option maxHeartbeats 1000000 in
theorem isZero_walk (v : Nat) (hv : v < 340282366920938463463374607431768211456) (w : World) :
    Calls Tryd.prog 93 #[magV v] w fun e w' => e = .returned (.bool (decide (v = 0))) ∧ Below w.heap.size w w' := by
  have HZ := hid (zero_dg hv)
  unfold magV magL dgV
  generalize dg v 0 = a0 at *
  generalize dg v 1 = a1 at *
  generalize dg v 2 = a2 at *
  generalize dg v 3 = a3 at *
  clear hv
  have fin : ∀ (x0 x1 x2 x3 : Value), Below w.heap.size w (w.alloc (Obj.cells #[x0, x1, x2, x3] 85)) := fun _ _ _ _ => Below.alloc (Below.refl _ _) (Nat.le_refl _) _
  have HF := hid fin
  clear fin
  by_cases h0 : a0 = 0
  · by_cases h1 : a1 = 0
    · by_cases h2 : a2 = 0
      · by_cases h3 : a3 = 0
        · rw [decide_eq_true (HZ.out.2 ⟨h0, h1, h2, h3⟩)]
          subst h0 h1 h2 h3
          go_enter Tryd.func93, Tryd.ntmps93
          go_wp2
          go_ret
          exact ⟨rfl, HF.out _ _ _ _⟩
        · rw [decide_eq_false (fun h => h3 (HZ.out.1 h).2.2.2)]
          have q : ((a3 : Int) == 0) = false := by simp; omega
          subst h0 h1 h2
          go_enter Tryd.func93, Tryd.ntmps93
          go_wp2
          go_ret
          exact ⟨rfl, HF.out _ _ _ _⟩
      · rw [decide_eq_false (fun h => h2 (HZ.out.1 h).2.2.1)]
        have q : ((a2 : Int) == 0) = false := by simp; omega
        subst h0 h1
        go_enter Tryd.func93, Tryd.ntmps93
        go_wp2
        go_ret
        exact ⟨rfl, HF.out _ _ _ _⟩
    · rw [decide_eq_false (fun h => h1 (HZ.out.1 h).2.1)]
      have q : ((a1 : Int) == 0) = false := by simp; omega
      subst h0
      go_enter Tryd.func93, Tryd.ntmps93
      go_wp2
      go_ret
      exact ⟨rfl, HF.out _ _ _ _⟩
  · rw [decide_eq_false (fun h => h0 (HZ.out.1 h).1)]
    have q : ((a0 : Int) == 0) = false := by simp; omega
    go_enter Tryd.func93, Tryd.ntmps93
    go_wp2
    go_ret
    exact ⟨rfl, HF.out _ _ _ _⟩
end Go.Proofs.Qxb6500890aDoor
