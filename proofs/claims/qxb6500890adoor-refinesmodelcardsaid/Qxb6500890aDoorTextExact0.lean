/- Exact at a divisor of zero. -/
import Derived.Test.Qxb6500890aDoorTextExact
namespace Go.Proofs.Qxb6500890aDoor
open Go.RowKit
set_option linter.unusedSimpArgs false
set_option linter.unusedVariables false

set_option maxRecDepth 100000 in
set_option maxHeartbeats 2000000 in
theorem exact_quo0 (a b : Int) (ha : I64 a) (hb : I64 b) (hb0 : b = 0) (w : World) :
    Calls Tryd.prog 51 #[.int .i64 5, .int .i64 a, .int .i64 b] w fun e w' => e = .returned (.tuple #[.agg zeroL.toArray, .bool false]) ∧ Below w.heap.size w w' := by
  obtain ⟨h, hh⟩ : ∃ h, w.heap.size = h := ⟨_, rfl⟩
  obtain ⟨w0, hw0⟩ : ∃ w0, w.alloc (.cells zeroL.toArray 87) = w0 := ⟨_, rfl⟩
  have HB0 : Hid (Below w.heap.size w w0) := by subst hw0; exact hid (Below.alloc (Below.refl _ _) (Nat.le_refl _) _)
  have HZ0 : Hid (Blk w0 h 87 zeroL) := by subst hw0 hh; exact hid (Blk.new _ _ _)
  have HW : Hid (w.heap.size ≤ h) := hid (by omega)
  have HFa : Hid (∀ w, Calls Tryd.prog 74 #[.int .i64 a] w fun e w' => e = .returned (wideX a) ∧ Below w.heap.size w w') := hid (fun w => fromInt64_walk a ha w)
  have HFb : Hid (∀ w, Calls Tryd.prog 74 #[.int .i64 b] w fun e w' => e = .returned (wideX b) ∧ Below w.heap.size w w') := hid (fun w => fromInt64_walk b hb w)
  have hna : a.natAbs ≤ 9223372036854775808 := by obtain ⟨x, y⟩ := ha; omega
  have hnb : b.natAbs ≤ 9223372036854775808 := by obtain ⟨x, y⟩ := hb; omega
  have hbt : (b == 0) = true := by simp [hb0]
  clear hb0
  clear hna hnb
  go_enter Tryd.func51, Tryd.ntmps51
  go_upto_region 1 with fail
  have hw0' : w.alloc (Obj.cells #[Value.bool false, Value.int IntKind.u32 0, Value.int IntKind.u32 0, Value.int IntKind.u32 0, Value.int IntKind.u32 0] 87) = w0 := hw0
  rw [hw0']
  clear hw0 hw0'
  go_wp2_with fail
  refine (HFa.out _).mono ?_
  rintro e w1 ⟨rfl, hb1⟩
  have HB1 := hid (HB0.out.trans (hb1.mono HB0.out.size))
  have HZ1 := hid (HZ0.out.below hb1)
  clear hb1
  go_wp2_with fail
  refine (HFb.out _).mono ?_
  rintro e w2 ⟨rfl, hb2⟩
  have HB2 := hid (HB1.out.trans (hb2.mono HB1.out.size))
  have HZ2 := hid (HZ1.out.below hb2)
  clear hb2
  unfold wideX
  go_upto_region 2 with fail
  obtain ⟨gx, hgx⟩ : ∃ g, w2.heap.size = g := ⟨_, rfl⟩
  obtain ⟨w3, hw3⟩ : ∃ w3, ((w2.alloc (Obj.cells (wideL a).toArray 87)).alloc (Obj.cells (wideL b).toArray 87)) = w3 := ⟨_, rfl⟩
  have HE : Hid (Ex w h gx (gx + 1) a b w3) := by
    subst hw3 hgx
    have hl2 : w.heap.size ≤ w2.heap.size := HB2.out.size
    refine hid ⟨(HB2.out.alloc hl2 _).alloc (by simp; omega) _, (HZ2.out.alloc _).alloc _, (Blk.new _ _ _).alloc _, ?_⟩
    have := Blk.new (w2.alloc (Obj.cells (wideL a).toArray 87)) (wideL b) 87
    simpa using this
  have hw3' : ((w2.alloc (Obj.cells #[Value.bool (decide (a < 0)), Value.int IntKind.u32 (dg a.natAbs 0 : Nat), Value.int IntKind.u32 (dg a.natAbs 1 : Nat), Value.int IntKind.u32 (dg a.natAbs 2 : Nat), Value.int IntKind.u32 (dg a.natAbs 3 : Nat)] 87)).alloc (Obj.cells #[Value.bool (decide (b < 0)), Value.int IntKind.u32 (dg b.natAbs 0 : Nat), Value.int IntKind.u32 (dg b.natAbs 1 : Nat), Value.int IntKind.u32 (dg b.natAbs 2 : Nat), Value.int IntKind.u32 (dg b.natAbs 3 : Nat)] 87)) = w3 := hw3
  rw [hw3', hgx]
  clear hw3 hw3' hgx HZ2 HZ1 HZ0 HB0 HB1 HB2 hh
  have HE4 := HE
  have e0 : w3.cell? ⟨h, 0, none⟩ = some (.bool false) := HE4.out.bz.cell 0
  have e1 : w3.cell? ⟨h, 1, none⟩ = some (.int .u32 0) := HE4.out.bz.cell 1
  have e2 : w3.cell? ⟨h, 2, none⟩ = some (.int .u32 0) := HE4.out.bz.cell 2
  have e3 : w3.cell? ⟨h, 3, none⟩ = some (.int .u32 0) := HE4.out.bz.cell 3
  have e4 : w3.cell? ⟨h, 4, none⟩ = some (.int .u32 0) := HE4.out.bz.cell 4
  have f0 := HE4.out.bz.frozen 0
  have f1 := HE4.out.bz.frozen 1
  have f2 := HE4.out.bz.frozen 2
  have f3 := HE4.out.bz.frozen 3
  have f4 := HE4.out.bz.frozen 4
  have HF := hid (HE4.out.fin HW.out (.bool false) (.int .u32 0) (.int .u32 0) (.int .u32 0) (.int .u32 0))
  go_wp2
  exact bodyPost_ret (v := .tuple #[.agg zeroL.toArray, .bool false]) (results_blk2 (g := h) rfl rfl rfl agg_wide HF.out.1) rfl ⟨rfl, HF.out.2⟩

set_option maxRecDepth 100000 in
set_option maxHeartbeats 2000000 in
theorem exact_rem0 (a b : Int) (ha : I64 a) (hb : I64 b) (hb0 : b = 0) (w : World) :
    Calls Tryd.prog 51 #[.int .i64 6, .int .i64 a, .int .i64 b] w fun e w' => e = .returned (.tuple #[.agg zeroL.toArray, .bool false]) ∧ Below w.heap.size w w' := by
  obtain ⟨h, hh⟩ : ∃ h, w.heap.size = h := ⟨_, rfl⟩
  obtain ⟨w0, hw0⟩ : ∃ w0, w.alloc (.cells zeroL.toArray 87) = w0 := ⟨_, rfl⟩
  have HB0 : Hid (Below w.heap.size w w0) := by subst hw0; exact hid (Below.alloc (Below.refl _ _) (Nat.le_refl _) _)
  have HZ0 : Hid (Blk w0 h 87 zeroL) := by subst hw0 hh; exact hid (Blk.new _ _ _)
  have HW : Hid (w.heap.size ≤ h) := hid (by omega)
  have HFa : Hid (∀ w, Calls Tryd.prog 74 #[.int .i64 a] w fun e w' => e = .returned (wideX a) ∧ Below w.heap.size w w') := hid (fun w => fromInt64_walk a ha w)
  have HFb : Hid (∀ w, Calls Tryd.prog 74 #[.int .i64 b] w fun e w' => e = .returned (wideX b) ∧ Below w.heap.size w w') := hid (fun w => fromInt64_walk b hb w)
  have hna : a.natAbs ≤ 9223372036854775808 := by obtain ⟨x, y⟩ := ha; omega
  have hnb : b.natAbs ≤ 9223372036854775808 := by obtain ⟨x, y⟩ := hb; omega
  have hbt : (b == 0) = true := by simp [hb0]
  clear hb0
  clear hna hnb
  go_enter Tryd.func51, Tryd.ntmps51
  go_upto_region 1 with fail
  have hw0' : w.alloc (Obj.cells #[Value.bool false, Value.int IntKind.u32 0, Value.int IntKind.u32 0, Value.int IntKind.u32 0, Value.int IntKind.u32 0] 87) = w0 := hw0
  rw [hw0']
  clear hw0 hw0'
  go_wp2_with fail
  refine (HFa.out _).mono ?_
  rintro e w1 ⟨rfl, hb1⟩
  have HB1 := hid (HB0.out.trans (hb1.mono HB0.out.size))
  have HZ1 := hid (HZ0.out.below hb1)
  clear hb1
  go_wp2_with fail
  refine (HFb.out _).mono ?_
  rintro e w2 ⟨rfl, hb2⟩
  have HB2 := hid (HB1.out.trans (hb2.mono HB1.out.size))
  have HZ2 := hid (HZ1.out.below hb2)
  clear hb2
  unfold wideX
  go_upto_region 2 with fail
  obtain ⟨gx, hgx⟩ : ∃ g, w2.heap.size = g := ⟨_, rfl⟩
  obtain ⟨w3, hw3⟩ : ∃ w3, ((w2.alloc (Obj.cells (wideL a).toArray 87)).alloc (Obj.cells (wideL b).toArray 87)) = w3 := ⟨_, rfl⟩
  have HE : Hid (Ex w h gx (gx + 1) a b w3) := by
    subst hw3 hgx
    have hl2 : w.heap.size ≤ w2.heap.size := HB2.out.size
    refine hid ⟨(HB2.out.alloc hl2 _).alloc (by simp; omega) _, (HZ2.out.alloc _).alloc _, (Blk.new _ _ _).alloc _, ?_⟩
    have := Blk.new (w2.alloc (Obj.cells (wideL a).toArray 87)) (wideL b) 87
    simpa using this
  have hw3' : ((w2.alloc (Obj.cells #[Value.bool (decide (a < 0)), Value.int IntKind.u32 (dg a.natAbs 0 : Nat), Value.int IntKind.u32 (dg a.natAbs 1 : Nat), Value.int IntKind.u32 (dg a.natAbs 2 : Nat), Value.int IntKind.u32 (dg a.natAbs 3 : Nat)] 87)).alloc (Obj.cells #[Value.bool (decide (b < 0)), Value.int IntKind.u32 (dg b.natAbs 0 : Nat), Value.int IntKind.u32 (dg b.natAbs 1 : Nat), Value.int IntKind.u32 (dg b.natAbs 2 : Nat), Value.int IntKind.u32 (dg b.natAbs 3 : Nat)] 87)) = w3 := hw3
  rw [hw3', hgx]
  clear hw3 hw3' hgx HZ2 HZ1 HZ0 HB0 HB1 HB2 hh
  have HE4 := HE
  have e0 : w3.cell? ⟨h, 0, none⟩ = some (.bool false) := HE4.out.bz.cell 0
  have e1 : w3.cell? ⟨h, 1, none⟩ = some (.int .u32 0) := HE4.out.bz.cell 1
  have e2 : w3.cell? ⟨h, 2, none⟩ = some (.int .u32 0) := HE4.out.bz.cell 2
  have e3 : w3.cell? ⟨h, 3, none⟩ = some (.int .u32 0) := HE4.out.bz.cell 3
  have e4 : w3.cell? ⟨h, 4, none⟩ = some (.int .u32 0) := HE4.out.bz.cell 4
  have f0 := HE4.out.bz.frozen 0
  have f1 := HE4.out.bz.frozen 1
  have f2 := HE4.out.bz.frozen 2
  have f3 := HE4.out.bz.frozen 3
  have f4 := HE4.out.bz.frozen 4
  have HF := hid (HE4.out.fin HW.out (.bool false) (.int .u32 0) (.int .u32 0) (.int .u32 0) (.int .u32 0))
  go_wp2
  exact bodyPost_ret (v := .tuple #[.agg zeroL.toArray, .bool false]) (results_blk2 (g := h) rfl rfl rfl agg_wide HF.out.1) rfl ⟨rfl, HF.out.2⟩

end Go.Proofs.Qxb6500890aDoor
