/- FromInt64, MulWide, AddWide. -/
import Derived.Test.Qxb6500890aDoorTextWideSign
import Derived.Deep.RegionWith
namespace Go.Proofs.Qxb6500890aDoor
open Go.RowKit
set_option linter.unusedSimpArgs false
set_option linter.unusedVariables false

theorem mul_sign (x y : Int) : (if (decide (x < 0) != decide (y < 0)) = true then -((x.natAbs * y.natAbs : Nat) : Int) else ((x.natAbs * y.natAbs : Nat) : Int)) = x * y := by
  by_cases hx : x < 0 <;> by_cases hy : y < 0 <;> simp [hx, hy]
  · rw [show ((x.natAbs : Nat) : Int) = -x by omega, show ((y.natAbs : Nat) : Int) = -y by omega, Int.neg_mul_neg]
  · rw [show ((x.natAbs : Nat) : Int) = -x by omega, show ((y.natAbs : Nat) : Int) = y by omega, Int.neg_mul, Int.neg_neg]
  · rw [show ((x.natAbs : Nat) : Int) = x by omega, show ((y.natAbs : Nat) : Int) = -y by omega, Int.mul_neg, Int.neg_neg]
  · rw [show ((x.natAbs : Nat) : Int) = x by omega, show ((y.natAbs : Nat) : Int) = y by omega]

theorem xor_full (u : Nat) (hu : u < 18446744073709551616) : 18446744073709551615 ^^^ u = 18446744073709551615 - u := by
  have h64 : u < 2 ^ 64 := hu
  have e : 18446744073709551615 - u = 2 ^ 64 - (u + 1) := by omega
  have e1 : 18446744073709551615 = 2 ^ 64 - 1 := by decide
  rw [e]
  apply Nat.eq_of_testBit_eq
  intro i
  rw [Nat.testBit_two_pow_sub_succ h64, Nat.testBit_xor, e1, Nat.testBit_two_pow_sub_one]
  by_cases hi : i < 64
  · simp [hi]
  · have : u.testBit i = false := Nat.testBit_lt_two_pow (Nat.lt_of_lt_of_le h64 (Nat.pow_le_pow_right (by decide) (by omega)))
    simp [hi, this]
theorem neg_u64 {v : Int} (h0 : -9223372036854775808 ≤ v) (h1 : v < 0) : IntKind.u64.wrap (bits .xor .u64 IntKind.u64.max (IntKind.u64.wrap v) + 1) = (v.natAbs : Int) := by
  have e1 : IntKind.u64.wrap v = ((18446744073709551616 - v.natAbs : Nat) : Int) := by
    simp [IntKind.wrap_u64]; omega
  have e2 : IntKind.u64.max = ((18446744073709551615 : Nat) : Int) := rfl
  rw [e1, e2, bits_xor_u64_nat _ _ (by decide) (by omega), xor_full _ (by omega), IntKind.wrap_u64]
  omega

structure Own5 (w : World) (h : Nat) (wr : World) : Prop where
  bel : Below w.heap.size w wr
  bb : Blk wr h 87 zeroL
theorem Own5.start (w : World) : Own5 w w.heap.size (w.alloc (.cells zeroL.toArray 87)) :=
  ⟨Below.alloc (Below.refl _ _) (Nat.le_refl _) _, Blk.new _ _ _⟩
theorem Own5.below {w wr w' : World} {h : Nat} (f : Own5 w h wr) (hb : Below wr.heap.size wr w') : Own5 w h w' :=
  ⟨f.bel.trans (hb.mono f.bel.size), f.bb.below hb⟩
theorem Own5.fin {w wr : World} {h : Nat} (f : Own5 w h wr) (hh : w.heap.size ≤ h) (v0 v1 v2 v3 v4 : Value) :
    Blk (set5 wr h v0 v1 v2 v3 v4) h 87 [v0, v1, v2, v3, v4] ∧ Below w.heap.size w (set5 wr h v0 v1 v2 v3 v4) :=
  ⟨set5_blk f.bb .., f.bel.trans ((set5_upd ..).below (by omega) f.bel.size)⟩

theorem Own5.s {w wr : World} {h : Nat} (f : Own5 w h wr) :
    wr.cell? ⟨h, 0, none⟩ = some (.bool false) ∧ wr.cell? ⟨h, 1, none⟩ = some (.int .u32 0) ∧ wr.cell? ⟨h, 2, none⟩ = some (.int .u32 0) ∧
    wr.cell? ⟨h, 3, none⟩ = some (.int .u32 0) ∧ wr.cell? ⟨h, 4, none⟩ = some (.int .u32 0) ∧
    wr.frozen? ⟨h, 0, none⟩ = false ∧ wr.frozen? ⟨h, 1, none⟩ = false ∧ wr.frozen? ⟨h, 2, none⟩ = false ∧ wr.frozen? ⟨h, 3, none⟩ = false ∧ wr.frozen? ⟨h, 4, none⟩ = false :=
  ⟨f.bb.cell 0, f.bb.cell 1, f.bb.cell 2, f.bb.cell 3, f.bb.cell 4, f.bb.frozen 0, f.bb.frozen 1, f.bb.frozen 2, f.bb.frozen 3, f.bb.frozen 4⟩

set_option maxRecDepth 100000 in
set_option maxHeartbeats 1000000 in
theorem fromInt64_walk (v : Int) (hv : I64 v) (w : World) :
    Calls Tryd.prog 74 #[.int .i64 v] w fun e w' => e = .returned (wideV v) ∧ Below w.heap.size w w' := by
  obtain ⟨hv0, hv1⟩ := hv
  obtain ⟨g, hg⟩ : ∃ g, w.heap.size = g := ⟨_, rfl⟩
  have HO := hid (Own5.start w)
  rw [hg] at HO
  have HW : Hid (w.heap.size ≤ g) := hid (by omega)
  have HE : Hid (wideV v = .agg #[.bool (decide (v < 0)), dgV v.natAbs 0, dgV v.natAbs 1, dgV v.natAbs 2, dgV v.natAbs 3]) := hid rfl
  by_cases hn : v < 0
  · have dn : decide (v < 0) = true := decide_eq_true hn
    have HZ := hid (fun w => fromUint64_walk v.natAbs (by omega) w)
    have HN := hid (neg_u64 hv0 hn)
    rw [dn] at HE
    go_enter Tryd.func74, Tryd.ntmps74
    go_wp2_with fail
    rw [HN.out]
    refine (HZ.out _).mono ?_
    rintro e w1 ⟨rfl, hb1⟩
    have HO1 := hid (HO.out.below hb1)
    clear hb1
    obtain ⟨e0, e1, e2, e3, e4, f0, f1, f2, f3, f4⟩ := HO1.out.s
    have HF := hid (HO1.out.fin HW.out (.bool true) (dgV v.natAbs 0) (dgV v.natAbs 1) (dgV v.natAbs 2) (dgV v.natAbs 3))
    unfold magV magL dgV
    go_wp2
    rw [HE.out]
    exact bodyPost_ret (v := .agg #[.bool true, dgV v.natAbs 0, dgV v.natAbs 1, dgV v.natAbs 2, dgV v.natAbs 3]) (results_blk rfl rfl agg_wide HF.out.1) rfl ⟨rfl, HF.out.2⟩
  · have dn : decide (v < 0) = false := decide_eq_false hn
    have HZ := hid (fun w => fromUint64_walk v.natAbs (by omega) w)
    have ev : v = (v.natAbs : Int) := by omega
    have HN := hid ev
    clear ev
    rw [dn] at HE
    go_enter Tryd.func74, Tryd.ntmps74
    go_wp2_with fail
    have HC := HZ.out (w.alloc (Obj.cells #[Value.bool false, Value.int IntKind.u32 0, Value.int IntKind.u32 0, Value.int IntKind.u32 0, Value.int IntKind.u32 0] 87))
    rw [← HN.out] at HC
    refine HC.mono ?_
    clear HC
    rintro e w1 ⟨rfl, hb1⟩
    have HO1 := hid (HO.out.below hb1)
    clear hb1
    obtain ⟨e0, e1, e2, e3, e4, f0, f1, f2, f3, f4⟩ := HO1.out.s
    have HF := hid (HO1.out.fin HW.out (.bool false) (dgV v.natAbs 0) (dgV v.natAbs 1) (dgV v.natAbs 2) (dgV v.natAbs 3))
    unfold magV magL dgV
    go_wp2
    rw [HE.out]
    exact bodyPost_ret (v := .agg #[.bool false, dgV v.natAbs 0, dgV v.natAbs 1, dgV v.natAbs 2, dgV v.natAbs 3]) (results_blk rfl rfl agg_wide HF.out.1) rfl ⟨rfl, HF.out.2⟩
end Go.Proofs.Qxb6500890aDoor
