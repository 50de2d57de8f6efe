/- Exact. -/
import Derived.Test.Qxb6500890aDoorTextWideFit
import Derived.Test.Qxb6500890aDoorLast3
namespace Go.Proofs.Qxb6500890aDoor
open Go.RowKit
set_option linter.unusedSimpArgs false
set_option linter.unusedVariables false

/-- The mathematical result of a step. -/
def exactZ (kind a b : Int) : Option Int :=
  if kind = 2 then some (a + b) else if kind = 3 then some (a - b) else if kind = 4 then some (a * b) else if kind = 7 then some (-a)
  else if kind = 5 then (if b = 0 then none else some (a.tdiv b)) else if kind = 6 then (if b = 0 then none else some (a.tmod b)) else none
theorem wideV_zero : wideV 0 = .agg zeroL.toArray := by
  simp [wideV, wideL, magL, dgV, dg, zeroL]

structure Ex (w : World) (h gx gy : Nat) (a b : Int) (wr : World) : Prop where
  bel : Below w.heap.size w wr
  bz : Blk wr h 87 zeroL
  bx : Blk wr gx 87 (wideL a)
  bY : Blk wr gy 87 (wideL b)
theorem Ex.below {w wr w' : World} {h gx gy : Nat} {a b : Int} (f : Ex w h gx gy a b wr) (hb : Below wr.heap.size wr w') : Ex w h gx gy a b w' :=
  ⟨f.bel.trans (hb.mono f.bel.size), f.bz.below hb, f.bx.below hb, f.bY.below hb⟩
theorem Ex.fin {w wr : World} {h gx gy : Nat} {a b : Int} (f : Ex w h gx gy a b wr) (hh : w.heap.size ≤ h) (v0 v1 v2 v3 v4 : Value) :
    Blk (set5 wr h v0 v1 v2 v3 v4) h 87 [v0, v1, v2, v3, v4] ∧ Below w.heap.size w (set5 wr h v0 v1 v2 v3 v4) :=
  ⟨set5_blk f.bz .., f.bel.trans ((set5_upd ..).below (by omega) f.bel.size)⟩
theorem results_blk2 {P : Program} {fn : Func} {tmps : Array Value} {w : World} {g s s2 : Nat} {t t' : TypeId} {cs : List Value} {v : Value} (hr : fn.results = #[.cell s t, .tmp s2])
    (hs : tmps.getD s undef = .pointer (some ⟨g, 0, none⟩)) (hv : tmps.getD s2 undef = v) (ha : AggOf P t cs.length) (hb : Blk w g t' cs) :
    (results fn tmps).run P w = .ok (.tuple #[.agg cs.toArray, v]) w := by
  have hl := run_loadVar_blk ha hb
  have hs' : tmps[s]?.getD undef = .pointer (some ⟨g, 0, none⟩) := by simpa using hs
  have hv' : tmps[s2]?.getD undef = v := by simpa using hv
  simp [results, hr, hs', hv', asAddr, hl]

set_option maxRecDepth 100000 in
set_option maxHeartbeats 2000000 in
theorem exact_add (a b : Int) (ha : I64 a) (hb : I64 b) (w : World) :
    Calls Tryd.prog 51 #[.int .i64 2, .int .i64 a, .int .i64 b] w fun e w' => e = .returned (.tuple #[wideV (a + b), .bool true]) ∧ Below w.heap.size w w' := by
  obtain ⟨h, hh⟩ : ∃ h, w.heap.size = h := ⟨_, rfl⟩
  obtain ⟨w0, hw0⟩ : ∃ w0, w.alloc (.cells zeroL.toArray 87) = w0 := ⟨_, rfl⟩
  have HB0 : Hid (Below w.heap.size w w0) := by subst hw0; exact hid (Below.alloc (Below.refl _ _) (Nat.le_refl _) _)
  have HZ0 : Hid (Blk w0 h 87 zeroL) := by subst hw0 hh; exact hid (Blk.new _ _ _)
  have HW : Hid (w.heap.size ≤ h) := hid (by omega)
  have HFa : Hid (∀ w, Calls Tryd.prog 74 #[.int .i64 a] w fun e w' => e = .returned (wideX a) ∧ Below w.heap.size w w') := hid (fun w => fromInt64_walk a ha w)
  have HFb : Hid (∀ w, Calls Tryd.prog 74 #[.int .i64 b] w fun e w' => e = .returned (wideX b) ∧ Below w.heap.size w w') := hid (fun w => fromInt64_walk b hb w)
  have hna : a.natAbs ≤ 9223372036854775808 := by obtain ⟨x, y⟩ := ha; omega
  have hnb : b.natAbs ≤ 9223372036854775808 := by obtain ⟨x, y⟩ := hb; omega
  obtain ⟨z, hz⟩ : ∃ z, a + b = z := ⟨_, rfl⟩
  have HO : Hid (∀ w, Calls Tryd.prog 75 #[wideV a, wideV b] w fun e w' => e = .returned (wideX z) ∧ Below w.heap.size w w') := hid (fun w => by
    rw [wideX_eq, ← hz]
    exact addWide_walk a b (by omega) (by omega) w)
  rw [hz]
  clear hz
  clear hna hnb
  go_enter Tryd.func51, Tryd.ntmps51
  go_upto_region 1 with fail
  have hw0' : w.alloc (Obj.cells #[Value.bool false, Value.int IntKind.u32 0, Value.int IntKind.u32 0, Value.int IntKind.u32 0, Value.int IntKind.u32 0] 87) = w0 := hw0
  rw [hw0']
  clear hw0 hw0'
  go_wp2_with fail
  refine (HFa.out _).mono ?_
  rintro e w1 ⟨rfl, hb1⟩
  have HB1 := hid (HB0.out.trans (hb1.mono HB0.out.size))
  have HZ1 := hid (HZ0.out.below hb1)
  clear hb1
  go_wp2_with fail
  refine (HFb.out _).mono ?_
  rintro e w2 ⟨rfl, hb2⟩
  have HB2 := hid (HB1.out.trans (hb2.mono HB1.out.size))
  have HZ2 := hid (HZ1.out.below hb2)
  clear hb2
  unfold wideX
  go_upto_region 2 with fail
  obtain ⟨gx, hgx⟩ : ∃ g, w2.heap.size = g := ⟨_, rfl⟩
  obtain ⟨w3, hw3⟩ : ∃ w3, ((w2.alloc (Obj.cells (wideL a).toArray 87)).alloc (Obj.cells (wideL b).toArray 87)) = w3 := ⟨_, rfl⟩
  have HE : Hid (Ex w h gx (gx + 1) a b w3) := by
    subst hw3 hgx
    have hl2 : w.heap.size ≤ w2.heap.size := HB2.out.size
    refine hid ⟨(HB2.out.alloc hl2 _).alloc (by simp; omega) _, (HZ2.out.alloc _).alloc _, (Blk.new _ _ _).alloc _, ?_⟩
    have := Blk.new (w2.alloc (Obj.cells (wideL a).toArray 87)) (wideL b) 87
    simpa using this
  have hw3' : ((w2.alloc (Obj.cells #[Value.bool (decide (a < 0)), Value.int IntKind.u32 (dg a.natAbs 0 : Nat), Value.int IntKind.u32 (dg a.natAbs 1 : Nat), Value.int IntKind.u32 (dg a.natAbs 2 : Nat), Value.int IntKind.u32 (dg a.natAbs 3 : Nat)] 87)).alloc (Obj.cells #[Value.bool (decide (b < 0)), Value.int IntKind.u32 (dg b.natAbs 0 : Nat), Value.int IntKind.u32 (dg b.natAbs 1 : Nat), Value.int IntKind.u32 (dg b.natAbs 2 : Nat), Value.int IntKind.u32 (dg b.natAbs 3 : Nat)] 87)) = w3 := hw3
  rw [hw3', hgx]
  clear hw3 hw3' hgx HZ2 HZ1 HZ0 HB0 HB1 HB2 hh
  have x0 : w3.cell? ⟨gx, 0, none⟩ = some (.bool (decide (a < 0))) := HE.out.bx.cell 0
  have x1 : w3.cell? ⟨gx, 1, none⟩ = some (.int .u32 (dg a.natAbs 0 : Nat)) := HE.out.bx.cell 1
  have x2 : w3.cell? ⟨gx, 2, none⟩ = some (.int .u32 (dg a.natAbs 1 : Nat)) := HE.out.bx.cell 2
  have x3 : w3.cell? ⟨gx, 3, none⟩ = some (.int .u32 (dg a.natAbs 2 : Nat)) := HE.out.bx.cell 3
  have x4 : w3.cell? ⟨gx, 4, none⟩ = some (.int .u32 (dg a.natAbs 3 : Nat)) := HE.out.bx.cell 4
  have y0 : w3.cell? ⟨gx + 1, 0, none⟩ = some (.bool (decide (b < 0))) := HE.out.bY.cell 0
  have y1 : w3.cell? ⟨gx + 1, 1, none⟩ = some (.int .u32 (dg b.natAbs 0 : Nat)) := HE.out.bY.cell 1
  have y2 : w3.cell? ⟨gx + 1, 2, none⟩ = some (.int .u32 (dg b.natAbs 1 : Nat)) := HE.out.bY.cell 2
  have y3 : w3.cell? ⟨gx + 1, 3, none⟩ = some (.int .u32 (dg b.natAbs 2 : Nat)) := HE.out.bY.cell 3
  have y4 : w3.cell? ⟨gx + 1, 4, none⟩ = some (.int .u32 (dg b.natAbs 3 : Nat)) := HE.out.bY.cell 4
  go_wp2_with fail
  refine (HO.out _).mono ?_
  rintro e w4 ⟨rfl, hb4⟩
  have HE4 := hid (HE.out.below hb4)
  clear hb4 x0 x1 x2 x3 x4 y0 y1 y2 y3 y4
  have e0 : w4.cell? ⟨h, 0, none⟩ = some (.bool false) := HE4.out.bz.cell 0
  have e1 : w4.cell? ⟨h, 1, none⟩ = some (.int .u32 0) := HE4.out.bz.cell 1
  have e2 : w4.cell? ⟨h, 2, none⟩ = some (.int .u32 0) := HE4.out.bz.cell 2
  have e3 : w4.cell? ⟨h, 3, none⟩ = some (.int .u32 0) := HE4.out.bz.cell 3
  have e4 : w4.cell? ⟨h, 4, none⟩ = some (.int .u32 0) := HE4.out.bz.cell 4
  have f0 := HE4.out.bz.frozen 0
  have f1 := HE4.out.bz.frozen 1
  have f2 := HE4.out.bz.frozen 2
  have f3 := HE4.out.bz.frozen 3
  have f4 := HE4.out.bz.frozen 4
  have HF := hid (HE4.out.fin HW.out (.bool (decide (z < 0))) (dgV z.natAbs 0) (dgV z.natAbs 1) (dgV z.natAbs 2) (dgV z.natAbs 3))
  unfold wideX
  go_wp2
  exact bodyPost_ret (v := .tuple #[wideV z, .bool true]) (results_blk2 (g := h) rfl rfl rfl agg_wide HF.out.1) rfl ⟨rfl, HF.out.2⟩

set_option maxRecDepth 100000 in
set_option maxHeartbeats 2000000 in
theorem exact_mul (a b : Int) (ha : I64 a) (hb : I64 b) (w : World) :
    Calls Tryd.prog 51 #[.int .i64 4, .int .i64 a, .int .i64 b] w fun e w' => e = .returned (.tuple #[wideV (a * b), .bool true]) ∧ Below w.heap.size w w' := by
  obtain ⟨h, hh⟩ : ∃ h, w.heap.size = h := ⟨_, rfl⟩
  obtain ⟨w0, hw0⟩ : ∃ w0, w.alloc (.cells zeroL.toArray 87) = w0 := ⟨_, rfl⟩
  have HB0 : Hid (Below w.heap.size w w0) := by subst hw0; exact hid (Below.alloc (Below.refl _ _) (Nat.le_refl _) _)
  have HZ0 : Hid (Blk w0 h 87 zeroL) := by subst hw0 hh; exact hid (Blk.new _ _ _)
  have HW : Hid (w.heap.size ≤ h) := hid (by omega)
  have HFa : Hid (∀ w, Calls Tryd.prog 74 #[.int .i64 a] w fun e w' => e = .returned (wideX a) ∧ Below w.heap.size w w') := hid (fun w => fromInt64_walk a ha w)
  have HFb : Hid (∀ w, Calls Tryd.prog 74 #[.int .i64 b] w fun e w' => e = .returned (wideX b) ∧ Below w.heap.size w w') := hid (fun w => fromInt64_walk b hb w)
  have hna : a.natAbs ≤ 9223372036854775808 := by obtain ⟨x, y⟩ := ha; omega
  have hnb : b.natAbs ≤ 9223372036854775808 := by obtain ⟨x, y⟩ := hb; omega
  obtain ⟨z, hz⟩ : ∃ z, a * b = z := ⟨_, rfl⟩
  have HO : Hid (∀ w, Calls Tryd.prog 77 #[wideV a, wideV b] w fun e w' => e = .returned (wideX z) ∧ Below w.heap.size w w') := hid (fun w => by
    rw [wideX_eq, ← hz]
    exact mulWide_walk a b (by omega) (by omega) w)
  rw [hz]
  clear hz
  clear hna hnb
  go_enter Tryd.func51, Tryd.ntmps51
  go_upto_region 1 with fail
  have hw0' : w.alloc (Obj.cells #[Value.bool false, Value.int IntKind.u32 0, Value.int IntKind.u32 0, Value.int IntKind.u32 0, Value.int IntKind.u32 0] 87) = w0 := hw0
  rw [hw0']
  clear hw0 hw0'
  go_wp2_with fail
  refine (HFa.out _).mono ?_
  rintro e w1 ⟨rfl, hb1⟩
  have HB1 := hid (HB0.out.trans (hb1.mono HB0.out.size))
  have HZ1 := hid (HZ0.out.below hb1)
  clear hb1
  go_wp2_with fail
  refine (HFb.out _).mono ?_
  rintro e w2 ⟨rfl, hb2⟩
  have HB2 := hid (HB1.out.trans (hb2.mono HB1.out.size))
  have HZ2 := hid (HZ1.out.below hb2)
  clear hb2
  unfold wideX
  go_upto_region 2 with fail
  obtain ⟨gx, hgx⟩ : ∃ g, w2.heap.size = g := ⟨_, rfl⟩
  obtain ⟨w3, hw3⟩ : ∃ w3, ((w2.alloc (Obj.cells (wideL a).toArray 87)).alloc (Obj.cells (wideL b).toArray 87)) = w3 := ⟨_, rfl⟩
  have HE : Hid (Ex w h gx (gx + 1) a b w3) := by
    subst hw3 hgx
    have hl2 : w.heap.size ≤ w2.heap.size := HB2.out.size
    refine hid ⟨(HB2.out.alloc hl2 _).alloc (by simp; omega) _, (HZ2.out.alloc _).alloc _, (Blk.new _ _ _).alloc _, ?_⟩
    have := Blk.new (w2.alloc (Obj.cells (wideL a).toArray 87)) (wideL b) 87
    simpa using this
  have hw3' : ((w2.alloc (Obj.cells #[Value.bool (decide (a < 0)), Value.int IntKind.u32 (dg a.natAbs 0 : Nat), Value.int IntKind.u32 (dg a.natAbs 1 : Nat), Value.int IntKind.u32 (dg a.natAbs 2 : Nat), Value.int IntKind.u32 (dg a.natAbs 3 : Nat)] 87)).alloc (Obj.cells #[Value.bool (decide (b < 0)), Value.int IntKind.u32 (dg b.natAbs 0 : Nat), Value.int IntKind.u32 (dg b.natAbs 1 : Nat), Value.int IntKind.u32 (dg b.natAbs 2 : Nat), Value.int IntKind.u32 (dg b.natAbs 3 : Nat)] 87)) = w3 := hw3
  rw [hw3', hgx]
  clear hw3 hw3' hgx HZ2 HZ1 HZ0 HB0 HB1 HB2 hh
  have x0 : w3.cell? ⟨gx, 0, none⟩ = some (.bool (decide (a < 0))) := HE.out.bx.cell 0
  have x1 : w3.cell? ⟨gx, 1, none⟩ = some (.int .u32 (dg a.natAbs 0 : Nat)) := HE.out.bx.cell 1
  have x2 : w3.cell? ⟨gx, 2, none⟩ = some (.int .u32 (dg a.natAbs 1 : Nat)) := HE.out.bx.cell 2
  have x3 : w3.cell? ⟨gx, 3, none⟩ = some (.int .u32 (dg a.natAbs 2 : Nat)) := HE.out.bx.cell 3
  have x4 : w3.cell? ⟨gx, 4, none⟩ = some (.int .u32 (dg a.natAbs 3 : Nat)) := HE.out.bx.cell 4
  have y0 : w3.cell? ⟨gx + 1, 0, none⟩ = some (.bool (decide (b < 0))) := HE.out.bY.cell 0
  have y1 : w3.cell? ⟨gx + 1, 1, none⟩ = some (.int .u32 (dg b.natAbs 0 : Nat)) := HE.out.bY.cell 1
  have y2 : w3.cell? ⟨gx + 1, 2, none⟩ = some (.int .u32 (dg b.natAbs 1 : Nat)) := HE.out.bY.cell 2
  have y3 : w3.cell? ⟨gx + 1, 3, none⟩ = some (.int .u32 (dg b.natAbs 2 : Nat)) := HE.out.bY.cell 3
  have y4 : w3.cell? ⟨gx + 1, 4, none⟩ = some (.int .u32 (dg b.natAbs 3 : Nat)) := HE.out.bY.cell 4
  go_wp2_with fail
  refine (HO.out _).mono ?_
  rintro e w4 ⟨rfl, hb4⟩
  have HE4 := hid (HE.out.below hb4)
  clear hb4 x0 x1 x2 x3 x4 y0 y1 y2 y3 y4
  have e0 : w4.cell? ⟨h, 0, none⟩ = some (.bool false) := HE4.out.bz.cell 0
  have e1 : w4.cell? ⟨h, 1, none⟩ = some (.int .u32 0) := HE4.out.bz.cell 1
  have e2 : w4.cell? ⟨h, 2, none⟩ = some (.int .u32 0) := HE4.out.bz.cell 2
  have e3 : w4.cell? ⟨h, 3, none⟩ = some (.int .u32 0) := HE4.out.bz.cell 3
  have e4 : w4.cell? ⟨h, 4, none⟩ = some (.int .u32 0) := HE4.out.bz.cell 4
  have f0 := HE4.out.bz.frozen 0
  have f1 := HE4.out.bz.frozen 1
  have f2 := HE4.out.bz.frozen 2
  have f3 := HE4.out.bz.frozen 3
  have f4 := HE4.out.bz.frozen 4
  have HF := hid (HE4.out.fin HW.out (.bool (decide (z < 0))) (dgV z.natAbs 0) (dgV z.natAbs 1) (dgV z.natAbs 2) (dgV z.natAbs 3))
  unfold wideX
  go_wp2
  exact bodyPost_ret (v := .tuple #[wideV z, .bool true]) (results_blk2 (g := h) rfl rfl rfl agg_wide HF.out.1) rfl ⟨rfl, HF.out.2⟩

set_option maxRecDepth 100000 in
set_option maxHeartbeats 2000000 in
theorem exact_quo (a b : Int) (ha : I64 a) (hb : I64 b) (hb0 : b ≠ 0) (w : World) :
    Calls Tryd.prog 51 #[.int .i64 5, .int .i64 a, .int .i64 b] w fun e w' => e = .returned (.tuple #[wideV (a.tdiv b), .bool true]) ∧ Below w.heap.size w w' := by
  obtain ⟨h, hh⟩ : ∃ h, w.heap.size = h := ⟨_, rfl⟩
  obtain ⟨w0, hw0⟩ : ∃ w0, w.alloc (.cells zeroL.toArray 87) = w0 := ⟨_, rfl⟩
  have HB0 : Hid (Below w.heap.size w w0) := by subst hw0; exact hid (Below.alloc (Below.refl _ _) (Nat.le_refl _) _)
  have HZ0 : Hid (Blk w0 h 87 zeroL) := by subst hw0 hh; exact hid (Blk.new _ _ _)
  have HW : Hid (w.heap.size ≤ h) := hid (by omega)
  have HFa : Hid (∀ w, Calls Tryd.prog 74 #[.int .i64 a] w fun e w' => e = .returned (wideX a) ∧ Below w.heap.size w w') := hid (fun w => fromInt64_walk a ha w)
  have HFb : Hid (∀ w, Calls Tryd.prog 74 #[.int .i64 b] w fun e w' => e = .returned (wideX b) ∧ Below w.heap.size w w') := hid (fun w => fromInt64_walk b hb w)
  have hna : a.natAbs ≤ 9223372036854775808 := by obtain ⟨x, y⟩ := ha; omega
  have hnb : b.natAbs ≤ 9223372036854775808 := by obtain ⟨x, y⟩ := hb; omega
  have hbt : (b == 0) = false := by simp [hb0]
  obtain ⟨z, hz⟩ : ∃ z, a.tdiv b = z := ⟨_, rfl⟩
  have HO : Hid (∀ w, Calls Tryd.prog 78 #[wideV a, wideV b] w fun e w' => e = .returned (wideX z) ∧ Below w.heap.size w w') := hid (fun w => by
    rw [wideX_eq, ← hz]
    exact quoWide_walk a b (by omega) (by omega) hb0 w)
  rw [hz]
  clear hz
  clear hna hnb
  go_enter Tryd.func51, Tryd.ntmps51
  go_upto_region 1 with fail
  have hw0' : w.alloc (Obj.cells #[Value.bool false, Value.int IntKind.u32 0, Value.int IntKind.u32 0, Value.int IntKind.u32 0, Value.int IntKind.u32 0] 87) = w0 := hw0
  rw [hw0']
  clear hw0 hw0'
  go_wp2_with fail
  refine (HFa.out _).mono ?_
  rintro e w1 ⟨rfl, hb1⟩
  have HB1 := hid (HB0.out.trans (hb1.mono HB0.out.size))
  have HZ1 := hid (HZ0.out.below hb1)
  clear hb1
  go_wp2_with fail
  refine (HFb.out _).mono ?_
  rintro e w2 ⟨rfl, hb2⟩
  have HB2 := hid (HB1.out.trans (hb2.mono HB1.out.size))
  have HZ2 := hid (HZ1.out.below hb2)
  clear hb2
  unfold wideX
  go_upto_region 2 with fail
  obtain ⟨gx, hgx⟩ : ∃ g, w2.heap.size = g := ⟨_, rfl⟩
  obtain ⟨w3, hw3⟩ : ∃ w3, ((w2.alloc (Obj.cells (wideL a).toArray 87)).alloc (Obj.cells (wideL b).toArray 87)) = w3 := ⟨_, rfl⟩
  have HE : Hid (Ex w h gx (gx + 1) a b w3) := by
    subst hw3 hgx
    have hl2 : w.heap.size ≤ w2.heap.size := HB2.out.size
    refine hid ⟨(HB2.out.alloc hl2 _).alloc (by simp; omega) _, (HZ2.out.alloc _).alloc _, (Blk.new _ _ _).alloc _, ?_⟩
    have := Blk.new (w2.alloc (Obj.cells (wideL a).toArray 87)) (wideL b) 87
    simpa using this
  have hw3' : ((w2.alloc (Obj.cells #[Value.bool (decide (a < 0)), Value.int IntKind.u32 (dg a.natAbs 0 : Nat), Value.int IntKind.u32 (dg a.natAbs 1 : Nat), Value.int IntKind.u32 (dg a.natAbs 2 : Nat), Value.int IntKind.u32 (dg a.natAbs 3 : Nat)] 87)).alloc (Obj.cells #[Value.bool (decide (b < 0)), Value.int IntKind.u32 (dg b.natAbs 0 : Nat), Value.int IntKind.u32 (dg b.natAbs 1 : Nat), Value.int IntKind.u32 (dg b.natAbs 2 : Nat), Value.int IntKind.u32 (dg b.natAbs 3 : Nat)] 87)) = w3 := hw3
  rw [hw3', hgx]
  clear hw3 hw3' hgx HZ2 HZ1 HZ0 HB0 HB1 HB2 hh
  have x0 : w3.cell? ⟨gx, 0, none⟩ = some (.bool (decide (a < 0))) := HE.out.bx.cell 0
  have x1 : w3.cell? ⟨gx, 1, none⟩ = some (.int .u32 (dg a.natAbs 0 : Nat)) := HE.out.bx.cell 1
  have x2 : w3.cell? ⟨gx, 2, none⟩ = some (.int .u32 (dg a.natAbs 1 : Nat)) := HE.out.bx.cell 2
  have x3 : w3.cell? ⟨gx, 3, none⟩ = some (.int .u32 (dg a.natAbs 2 : Nat)) := HE.out.bx.cell 3
  have x4 : w3.cell? ⟨gx, 4, none⟩ = some (.int .u32 (dg a.natAbs 3 : Nat)) := HE.out.bx.cell 4
  have y0 : w3.cell? ⟨gx + 1, 0, none⟩ = some (.bool (decide (b < 0))) := HE.out.bY.cell 0
  have y1 : w3.cell? ⟨gx + 1, 1, none⟩ = some (.int .u32 (dg b.natAbs 0 : Nat)) := HE.out.bY.cell 1
  have y2 : w3.cell? ⟨gx + 1, 2, none⟩ = some (.int .u32 (dg b.natAbs 1 : Nat)) := HE.out.bY.cell 2
  have y3 : w3.cell? ⟨gx + 1, 3, none⟩ = some (.int .u32 (dg b.natAbs 2 : Nat)) := HE.out.bY.cell 3
  have y4 : w3.cell? ⟨gx + 1, 4, none⟩ = some (.int .u32 (dg b.natAbs 3 : Nat)) := HE.out.bY.cell 4
  go_wp2_with fail
  refine (HO.out _).mono ?_
  rintro e w4 ⟨rfl, hb4⟩
  have HE4 := hid (HE.out.below hb4)
  clear hb4 x0 x1 x2 x3 x4 y0 y1 y2 y3 y4
  have e0 : w4.cell? ⟨h, 0, none⟩ = some (.bool false) := HE4.out.bz.cell 0
  have e1 : w4.cell? ⟨h, 1, none⟩ = some (.int .u32 0) := HE4.out.bz.cell 1
  have e2 : w4.cell? ⟨h, 2, none⟩ = some (.int .u32 0) := HE4.out.bz.cell 2
  have e3 : w4.cell? ⟨h, 3, none⟩ = some (.int .u32 0) := HE4.out.bz.cell 3
  have e4 : w4.cell? ⟨h, 4, none⟩ = some (.int .u32 0) := HE4.out.bz.cell 4
  have f0 := HE4.out.bz.frozen 0
  have f1 := HE4.out.bz.frozen 1
  have f2 := HE4.out.bz.frozen 2
  have f3 := HE4.out.bz.frozen 3
  have f4 := HE4.out.bz.frozen 4
  have HF := hid (HE4.out.fin HW.out (.bool (decide (z < 0))) (dgV z.natAbs 0) (dgV z.natAbs 1) (dgV z.natAbs 2) (dgV z.natAbs 3))
  unfold wideX
  go_wp2
  exact bodyPost_ret (v := .tuple #[wideV z, .bool true]) (results_blk2 (g := h) rfl rfl rfl agg_wide HF.out.1) rfl ⟨rfl, HF.out.2⟩

set_option maxRecDepth 100000 in
set_option maxHeartbeats 2000000 in
theorem exact_rem (a b : Int) (ha : I64 a) (hb : I64 b) (hb0 : b ≠ 0) (w : World) :
    Calls Tryd.prog 51 #[.int .i64 6, .int .i64 a, .int .i64 b] w fun e w' => e = .returned (.tuple #[wideV (a.tmod b), .bool true]) ∧ Below w.heap.size w w' := by
  obtain ⟨h, hh⟩ : ∃ h, w.heap.size = h := ⟨_, rfl⟩
  obtain ⟨w0, hw0⟩ : ∃ w0, w.alloc (.cells zeroL.toArray 87) = w0 := ⟨_, rfl⟩
  have HB0 : Hid (Below w.heap.size w w0) := by subst hw0; exact hid (Below.alloc (Below.refl _ _) (Nat.le_refl _) _)
  have HZ0 : Hid (Blk w0 h 87 zeroL) := by subst hw0 hh; exact hid (Blk.new _ _ _)
  have HW : Hid (w.heap.size ≤ h) := hid (by omega)
  have HFa : Hid (∀ w, Calls Tryd.prog 74 #[.int .i64 a] w fun e w' => e = .returned (wideX a) ∧ Below w.heap.size w w') := hid (fun w => fromInt64_walk a ha w)
  have HFb : Hid (∀ w, Calls Tryd.prog 74 #[.int .i64 b] w fun e w' => e = .returned (wideX b) ∧ Below w.heap.size w w') := hid (fun w => fromInt64_walk b hb w)
  have hna : a.natAbs ≤ 9223372036854775808 := by obtain ⟨x, y⟩ := ha; omega
  have hnb : b.natAbs ≤ 9223372036854775808 := by obtain ⟨x, y⟩ := hb; omega
  have hbt : (b == 0) = false := by simp [hb0]
  obtain ⟨z, hz⟩ : ∃ z, a.tmod b = z := ⟨_, rfl⟩
  have HO : Hid (∀ w, Calls Tryd.prog 79 #[wideV a, wideV b] w fun e w' => e = .returned (wideX z) ∧ Below w.heap.size w w') := hid (fun w => by
    rw [wideX_eq, ← hz]
    exact remWide_walk a b (by omega) (by omega) hb0 w)
  rw [hz]
  clear hz
  clear hna hnb
  go_enter Tryd.func51, Tryd.ntmps51
  go_upto_region 1 with fail
  have hw0' : w.alloc (Obj.cells #[Value.bool false, Value.int IntKind.u32 0, Value.int IntKind.u32 0, Value.int IntKind.u32 0, Value.int IntKind.u32 0] 87) = w0 := hw0
  rw [hw0']
  clear hw0 hw0'
  go_wp2_with fail
  refine (HFa.out _).mono ?_
  rintro e w1 ⟨rfl, hb1⟩
  have HB1 := hid (HB0.out.trans (hb1.mono HB0.out.size))
  have HZ1 := hid (HZ0.out.below hb1)
  clear hb1
  go_wp2_with fail
  refine (HFb.out _).mono ?_
  rintro e w2 ⟨rfl, hb2⟩
  have HB2 := hid (HB1.out.trans (hb2.mono HB1.out.size))
  have HZ2 := hid (HZ1.out.below hb2)
  clear hb2
  unfold wideX
  go_upto_region 2 with fail
  obtain ⟨gx, hgx⟩ : ∃ g, w2.heap.size = g := ⟨_, rfl⟩
  obtain ⟨w3, hw3⟩ : ∃ w3, ((w2.alloc (Obj.cells (wideL a).toArray 87)).alloc (Obj.cells (wideL b).toArray 87)) = w3 := ⟨_, rfl⟩
  have HE : Hid (Ex w h gx (gx + 1) a b w3) := by
    subst hw3 hgx
    have hl2 : w.heap.size ≤ w2.heap.size := HB2.out.size
    refine hid ⟨(HB2.out.alloc hl2 _).alloc (by simp; omega) _, (HZ2.out.alloc _).alloc _, (Blk.new _ _ _).alloc _, ?_⟩
    have := Blk.new (w2.alloc (Obj.cells (wideL a).toArray 87)) (wideL b) 87
    simpa using this
  have hw3' : ((w2.alloc (Obj.cells #[Value.bool (decide (a < 0)), Value.int IntKind.u32 (dg a.natAbs 0 : Nat), Value.int IntKind.u32 (dg a.natAbs 1 : Nat), Value.int IntKind.u32 (dg a.natAbs 2 : Nat), Value.int IntKind.u32 (dg a.natAbs 3 : Nat)] 87)).alloc (Obj.cells #[Value.bool (decide (b < 0)), Value.int IntKind.u32 (dg b.natAbs 0 : Nat), Value.int IntKind.u32 (dg b.natAbs 1 : Nat), Value.int IntKind.u32 (dg b.natAbs 2 : Nat), Value.int IntKind.u32 (dg b.natAbs 3 : Nat)] 87)) = w3 := hw3
  rw [hw3', hgx]
  clear hw3 hw3' hgx HZ2 HZ1 HZ0 HB0 HB1 HB2 hh
  have x0 : w3.cell? ⟨gx, 0, none⟩ = some (.bool (decide (a < 0))) := HE.out.bx.cell 0
  have x1 : w3.cell? ⟨gx, 1, none⟩ = some (.int .u32 (dg a.natAbs 0 : Nat)) := HE.out.bx.cell 1
  have x2 : w3.cell? ⟨gx, 2, none⟩ = some (.int .u32 (dg a.natAbs 1 : Nat)) := HE.out.bx.cell 2
  have x3 : w3.cell? ⟨gx, 3, none⟩ = some (.int .u32 (dg a.natAbs 2 : Nat)) := HE.out.bx.cell 3
  have x4 : w3.cell? ⟨gx, 4, none⟩ = some (.int .u32 (dg a.natAbs 3 : Nat)) := HE.out.bx.cell 4
  have y0 : w3.cell? ⟨gx + 1, 0, none⟩ = some (.bool (decide (b < 0))) := HE.out.bY.cell 0
  have y1 : w3.cell? ⟨gx + 1, 1, none⟩ = some (.int .u32 (dg b.natAbs 0 : Nat)) := HE.out.bY.cell 1
  have y2 : w3.cell? ⟨gx + 1, 2, none⟩ = some (.int .u32 (dg b.natAbs 1 : Nat)) := HE.out.bY.cell 2
  have y3 : w3.cell? ⟨gx + 1, 3, none⟩ = some (.int .u32 (dg b.natAbs 2 : Nat)) := HE.out.bY.cell 3
  have y4 : w3.cell? ⟨gx + 1, 4, none⟩ = some (.int .u32 (dg b.natAbs 3 : Nat)) := HE.out.bY.cell 4
  go_wp2_with fail
  refine (HO.out _).mono ?_
  rintro e w4 ⟨rfl, hb4⟩
  have HE4 := hid (HE.out.below hb4)
  clear hb4 x0 x1 x2 x3 x4 y0 y1 y2 y3 y4
  have e0 : w4.cell? ⟨h, 0, none⟩ = some (.bool false) := HE4.out.bz.cell 0
  have e1 : w4.cell? ⟨h, 1, none⟩ = some (.int .u32 0) := HE4.out.bz.cell 1
  have e2 : w4.cell? ⟨h, 2, none⟩ = some (.int .u32 0) := HE4.out.bz.cell 2
  have e3 : w4.cell? ⟨h, 3, none⟩ = some (.int .u32 0) := HE4.out.bz.cell 3
  have e4 : w4.cell? ⟨h, 4, none⟩ = some (.int .u32 0) := HE4.out.bz.cell 4
  have f0 := HE4.out.bz.frozen 0
  have f1 := HE4.out.bz.frozen 1
  have f2 := HE4.out.bz.frozen 2
  have f3 := HE4.out.bz.frozen 3
  have f4 := HE4.out.bz.frozen 4
  have HF := hid (HE4.out.fin HW.out (.bool (decide (z < 0))) (dgV z.natAbs 0) (dgV z.natAbs 1) (dgV z.natAbs 2) (dgV z.natAbs 3))
  unfold wideX
  go_wp2
  exact bodyPost_ret (v := .tuple #[wideV z, .bool true]) (results_blk2 (g := h) rfl rfl rfl agg_wide HF.out.1) rfl ⟨rfl, HF.out.2⟩

set_option maxRecDepth 100000 in
set_option maxHeartbeats 2000000 in
theorem exact_neg (a b : Int) (ha : I64 a) (hb : I64 b) (w : World) :
    Calls Tryd.prog 51 #[.int .i64 7, .int .i64 a, .int .i64 b] w fun e w' => e = .returned (.tuple #[wideV (-a), .bool true]) ∧ Below w.heap.size w w' := by
  obtain ⟨h, hh⟩ : ∃ h, w.heap.size = h := ⟨_, rfl⟩
  obtain ⟨w0, hw0⟩ : ∃ w0, w.alloc (.cells zeroL.toArray 87) = w0 := ⟨_, rfl⟩
  have HB0 : Hid (Below w.heap.size w w0) := by subst hw0; exact hid (Below.alloc (Below.refl _ _) (Nat.le_refl _) _)
  have HZ0 : Hid (Blk w0 h 87 zeroL) := by subst hw0 hh; exact hid (Blk.new _ _ _)
  have HW : Hid (w.heap.size ≤ h) := hid (by omega)
  have HFa : Hid (∀ w, Calls Tryd.prog 74 #[.int .i64 a] w fun e w' => e = .returned (wideX a) ∧ Below w.heap.size w w') := hid (fun w => fromInt64_walk a ha w)
  have HFb : Hid (∀ w, Calls Tryd.prog 74 #[.int .i64 b] w fun e w' => e = .returned (wideX b) ∧ Below w.heap.size w w') := hid (fun w => fromInt64_walk b hb w)
  have hna : a.natAbs ≤ 9223372036854775808 := by obtain ⟨x, y⟩ := ha; omega
  have hnb : b.natAbs ≤ 9223372036854775808 := by obtain ⟨x, y⟩ := hb; omega
  obtain ⟨z, hz⟩ : ∃ z, -a = z := ⟨_, rfl⟩
  have HO : Hid (∀ w, Calls Tryd.prog 76 #[wideV a] w fun e w' => e = .returned (wideX z) ∧ Below w.heap.size w w') := hid (fun w => by
    rw [wideX_eq, ← hz]
    exact negWide_walk a (by omega) w)
  rw [hz]
  clear hz
  clear hna hnb
  go_enter Tryd.func51, Tryd.ntmps51
  go_upto_region 1 with fail
  have hw0' : w.alloc (Obj.cells #[Value.bool false, Value.int IntKind.u32 0, Value.int IntKind.u32 0, Value.int IntKind.u32 0, Value.int IntKind.u32 0] 87) = w0 := hw0
  rw [hw0']
  clear hw0 hw0'
  go_wp2_with fail
  refine (HFa.out _).mono ?_
  rintro e w1 ⟨rfl, hb1⟩
  have HB1 := hid (HB0.out.trans (hb1.mono HB0.out.size))
  have HZ1 := hid (HZ0.out.below hb1)
  clear hb1
  go_wp2_with fail
  refine (HFb.out _).mono ?_
  rintro e w2 ⟨rfl, hb2⟩
  have HB2 := hid (HB1.out.trans (hb2.mono HB1.out.size))
  have HZ2 := hid (HZ1.out.below hb2)
  clear hb2
  unfold wideX
  go_upto_region 2 with fail
  obtain ⟨gx, hgx⟩ : ∃ g, w2.heap.size = g := ⟨_, rfl⟩
  obtain ⟨w3, hw3⟩ : ∃ w3, ((w2.alloc (Obj.cells (wideL a).toArray 87)).alloc (Obj.cells (wideL b).toArray 87)) = w3 := ⟨_, rfl⟩
  have HE : Hid (Ex w h gx (gx + 1) a b w3) := by
    subst hw3 hgx
    have hl2 : w.heap.size ≤ w2.heap.size := HB2.out.size
    refine hid ⟨(HB2.out.alloc hl2 _).alloc (by simp; omega) _, (HZ2.out.alloc _).alloc _, (Blk.new _ _ _).alloc _, ?_⟩
    have := Blk.new (w2.alloc (Obj.cells (wideL a).toArray 87)) (wideL b) 87
    simpa using this
  have hw3' : ((w2.alloc (Obj.cells #[Value.bool (decide (a < 0)), Value.int IntKind.u32 (dg a.natAbs 0 : Nat), Value.int IntKind.u32 (dg a.natAbs 1 : Nat), Value.int IntKind.u32 (dg a.natAbs 2 : Nat), Value.int IntKind.u32 (dg a.natAbs 3 : Nat)] 87)).alloc (Obj.cells #[Value.bool (decide (b < 0)), Value.int IntKind.u32 (dg b.natAbs 0 : Nat), Value.int IntKind.u32 (dg b.natAbs 1 : Nat), Value.int IntKind.u32 (dg b.natAbs 2 : Nat), Value.int IntKind.u32 (dg b.natAbs 3 : Nat)] 87)) = w3 := hw3
  rw [hw3', hgx]
  clear hw3 hw3' hgx HZ2 HZ1 HZ0 HB0 HB1 HB2 hh
  have x0 : w3.cell? ⟨gx, 0, none⟩ = some (.bool (decide (a < 0))) := HE.out.bx.cell 0
  have x1 : w3.cell? ⟨gx, 1, none⟩ = some (.int .u32 (dg a.natAbs 0 : Nat)) := HE.out.bx.cell 1
  have x2 : w3.cell? ⟨gx, 2, none⟩ = some (.int .u32 (dg a.natAbs 1 : Nat)) := HE.out.bx.cell 2
  have x3 : w3.cell? ⟨gx, 3, none⟩ = some (.int .u32 (dg a.natAbs 2 : Nat)) := HE.out.bx.cell 3
  have x4 : w3.cell? ⟨gx, 4, none⟩ = some (.int .u32 (dg a.natAbs 3 : Nat)) := HE.out.bx.cell 4
  have y0 : w3.cell? ⟨gx + 1, 0, none⟩ = some (.bool (decide (b < 0))) := HE.out.bY.cell 0
  have y1 : w3.cell? ⟨gx + 1, 1, none⟩ = some (.int .u32 (dg b.natAbs 0 : Nat)) := HE.out.bY.cell 1
  have y2 : w3.cell? ⟨gx + 1, 2, none⟩ = some (.int .u32 (dg b.natAbs 1 : Nat)) := HE.out.bY.cell 2
  have y3 : w3.cell? ⟨gx + 1, 3, none⟩ = some (.int .u32 (dg b.natAbs 2 : Nat)) := HE.out.bY.cell 3
  have y4 : w3.cell? ⟨gx + 1, 4, none⟩ = some (.int .u32 (dg b.natAbs 3 : Nat)) := HE.out.bY.cell 4
  go_wp2_with fail
  refine (HO.out _).mono ?_
  rintro e w4 ⟨rfl, hb4⟩
  have HE4 := hid (HE.out.below hb4)
  clear hb4 x0 x1 x2 x3 x4 y0 y1 y2 y3 y4
  have e0 : w4.cell? ⟨h, 0, none⟩ = some (.bool false) := HE4.out.bz.cell 0
  have e1 : w4.cell? ⟨h, 1, none⟩ = some (.int .u32 0) := HE4.out.bz.cell 1
  have e2 : w4.cell? ⟨h, 2, none⟩ = some (.int .u32 0) := HE4.out.bz.cell 2
  have e3 : w4.cell? ⟨h, 3, none⟩ = some (.int .u32 0) := HE4.out.bz.cell 3
  have e4 : w4.cell? ⟨h, 4, none⟩ = some (.int .u32 0) := HE4.out.bz.cell 4
  have f0 := HE4.out.bz.frozen 0
  have f1 := HE4.out.bz.frozen 1
  have f2 := HE4.out.bz.frozen 2
  have f3 := HE4.out.bz.frozen 3
  have f4 := HE4.out.bz.frozen 4
  have HF := hid (HE4.out.fin HW.out (.bool (decide (z < 0))) (dgV z.natAbs 0) (dgV z.natAbs 1) (dgV z.natAbs 2) (dgV z.natAbs 3))
  unfold wideX
  go_wp2
  exact bodyPost_ret (v := .tuple #[wideV z, .bool true]) (results_blk2 (g := h) rfl rfl rfl agg_wide HF.out.1) rfl ⟨rfl, HF.out.2⟩

set_option maxRecDepth 100000 in
set_option maxHeartbeats 2000000 in
theorem exact_sub (a b : Int) (ha : I64 a) (hb : I64 b) (w : World) :
    Calls Tryd.prog 51 #[.int .i64 3, .int .i64 a, .int .i64 b] w fun e w' => e = .returned (.tuple #[wideV (a - b), .bool true]) ∧ Below w.heap.size w w' := by
  obtain ⟨h, hh⟩ : ∃ h, w.heap.size = h := ⟨_, rfl⟩
  obtain ⟨w0, hw0⟩ : ∃ w0, w.alloc (.cells zeroL.toArray 87) = w0 := ⟨_, rfl⟩
  have HB0 : Hid (Below w.heap.size w w0) := by subst hw0; exact hid (Below.alloc (Below.refl _ _) (Nat.le_refl _) _)
  have HZ0 : Hid (Blk w0 h 87 zeroL) := by subst hw0 hh; exact hid (Blk.new _ _ _)
  have HW : Hid (w.heap.size ≤ h) := hid (by omega)
  have HFa : Hid (∀ w, Calls Tryd.prog 74 #[.int .i64 a] w fun e w' => e = .returned (wideX a) ∧ Below w.heap.size w w') := hid (fun w => fromInt64_walk a ha w)
  have HFb : Hid (∀ w, Calls Tryd.prog 74 #[.int .i64 b] w fun e w' => e = .returned (wideX b) ∧ Below w.heap.size w w') := hid (fun w => fromInt64_walk b hb w)
  have hna : a.natAbs ≤ 9223372036854775808 := by obtain ⟨x, y⟩ := ha; omega
  have hnb : b.natAbs ≤ 9223372036854775808 := by obtain ⟨x, y⟩ := hb; omega
  obtain ⟨z, hz⟩ : ∃ z, a - b = z := ⟨_, rfl⟩
  have HNb := hid (fun w => negWide_walk b (by omega) w)
  have HO : Hid (∀ w, Calls Tryd.prog 75 #[wideV a, wideV (-b)] w fun e w' => e = .returned (wideX z) ∧ Below w.heap.size w w') := hid (fun w => by
    rw [wideX_eq, ← hz, Int.sub_eq_add_neg]
    exact addWide_walk a (-b) (by omega) (by omega) w)
  rw [hz]
  clear hz
  clear hna hnb
  go_enter Tryd.func51, Tryd.ntmps51
  go_upto_region 1 with fail
  have hw0' : w.alloc (Obj.cells #[Value.bool false, Value.int IntKind.u32 0, Value.int IntKind.u32 0, Value.int IntKind.u32 0, Value.int IntKind.u32 0] 87) = w0 := hw0
  rw [hw0']
  clear hw0 hw0'
  go_wp2_with fail
  refine (HFa.out _).mono ?_
  rintro e w1 ⟨rfl, hb1⟩
  have HB1 := hid (HB0.out.trans (hb1.mono HB0.out.size))
  have HZ1 := hid (HZ0.out.below hb1)
  clear hb1
  go_wp2_with fail
  refine (HFb.out _).mono ?_
  rintro e w2 ⟨rfl, hb2⟩
  have HB2 := hid (HB1.out.trans (hb2.mono HB1.out.size))
  have HZ2 := hid (HZ1.out.below hb2)
  clear hb2
  unfold wideX
  go_upto_region 2 with fail
  obtain ⟨gx, hgx⟩ : ∃ g, w2.heap.size = g := ⟨_, rfl⟩
  obtain ⟨w3, hw3⟩ : ∃ w3, ((w2.alloc (Obj.cells (wideL a).toArray 87)).alloc (Obj.cells (wideL b).toArray 87)) = w3 := ⟨_, rfl⟩
  have HE : Hid (Ex w h gx (gx + 1) a b w3) := by
    subst hw3 hgx
    have hl2 : w.heap.size ≤ w2.heap.size := HB2.out.size
    refine hid ⟨(HB2.out.alloc hl2 _).alloc (by simp; omega) _, (HZ2.out.alloc _).alloc _, (Blk.new _ _ _).alloc _, ?_⟩
    have := Blk.new (w2.alloc (Obj.cells (wideL a).toArray 87)) (wideL b) 87
    simpa using this
  have hw3' : ((w2.alloc (Obj.cells #[Value.bool (decide (a < 0)), Value.int IntKind.u32 (dg a.natAbs 0 : Nat), Value.int IntKind.u32 (dg a.natAbs 1 : Nat), Value.int IntKind.u32 (dg a.natAbs 2 : Nat), Value.int IntKind.u32 (dg a.natAbs 3 : Nat)] 87)).alloc (Obj.cells #[Value.bool (decide (b < 0)), Value.int IntKind.u32 (dg b.natAbs 0 : Nat), Value.int IntKind.u32 (dg b.natAbs 1 : Nat), Value.int IntKind.u32 (dg b.natAbs 2 : Nat), Value.int IntKind.u32 (dg b.natAbs 3 : Nat)] 87)) = w3 := hw3
  rw [hw3', hgx]
  clear hw3 hw3' hgx HZ2 HZ1 HZ0 HB0 HB1 HB2 hh
  obtain ⟨X, W, hT, hI⟩ := class_mk (Ex w h gx (gx + 1) a b)
  have HC : Hid (∀ q w', Below (W q).heap.size (W q) w' → ∃ y, w' = W y) := hid (fun q w' hb => hI _ ((hT q).below hb))
  have H0 : Hid (∃ q, w3.drew = W q) := hid (hI _ (HE.out.below (Drew.below ⟨1, rfl⟩ _)))
  have hne : Nonempty X := ⟨H0.out.choose⟩
  have x0 : ∀ q, (W q).cell? ⟨gx, 0, none⟩ = some (.bool (decide (a < 0))) := fun q => (hT q).bx.cell 0
  have x1 : ∀ q, (W q).cell? ⟨gx, 1, none⟩ = some (.int .u32 (dg a.natAbs 0 : Nat)) := fun q => (hT q).bx.cell 1
  have x2 : ∀ q, (W q).cell? ⟨gx, 2, none⟩ = some (.int .u32 (dg a.natAbs 1 : Nat)) := fun q => (hT q).bx.cell 2
  have x3 : ∀ q, (W q).cell? ⟨gx, 3, none⟩ = some (.int .u32 (dg a.natAbs 2 : Nat)) := fun q => (hT q).bx.cell 3
  have x4 : ∀ q, (W q).cell? ⟨gx, 4, none⟩ = some (.int .u32 (dg a.natAbs 3 : Nat)) := fun q => (hT q).bx.cell 4
  have y0 : ∀ q, (W q).cell? ⟨gx + 1, 0, none⟩ = some (.bool (decide (b < 0))) := fun q => (hT q).bY.cell 0
  have y1 : ∀ q, (W q).cell? ⟨gx + 1, 1, none⟩ = some (.int .u32 (dg b.natAbs 0 : Nat)) := fun q => (hT q).bY.cell 1
  have y2 : ∀ q, (W q).cell? ⟨gx + 1, 2, none⟩ = some (.int .u32 (dg b.natAbs 1 : Nat)) := fun q => (hT q).bY.cell 2
  have y3 : ∀ q, (W q).cell? ⟨gx + 1, 3, none⟩ = some (.int .u32 (dg b.natAbs 2 : Nat)) := fun q => (hT q).bY.cell 3
  have y4 : ∀ q, (W q).cell? ⟨gx + 1, 4, none⟩ = some (.int .u32 (dg b.natAbs 3 : Nat)) := fun q => (hT q).bY.cell 4
  have HX := hid hT
  clear hT hI
  go_wp2_with fail
  refine wp_region_class_tail W 4 (by kernel_rfl) (by kernel_rfl) (by kernel_rfl) H0.out ?_
  dsimp only [List.take, List.drop]
  repeat (go_big_quiet_step (first
    | (go_at_call 76; exact Calls.class_of HC.out (HNb.out _))
    | (go_at_call 75; exact Calls.class_of HC.out (HO.out _))))
  refine wpQuiet_nil ?_
  intro q
  have HE4 := hid (HX.out q)
  generalize W q = w4 at *
  clear x0 x1 x2 x3 x4 y0 y1 y2 y3 y4 HX H0 HC hne
  have e0 : w4.cell? ⟨h, 0, none⟩ = some (.bool false) := HE4.out.bz.cell 0
  have e1 : w4.cell? ⟨h, 1, none⟩ = some (.int .u32 0) := HE4.out.bz.cell 1
  have e2 : w4.cell? ⟨h, 2, none⟩ = some (.int .u32 0) := HE4.out.bz.cell 2
  have e3 : w4.cell? ⟨h, 3, none⟩ = some (.int .u32 0) := HE4.out.bz.cell 3
  have e4 : w4.cell? ⟨h, 4, none⟩ = some (.int .u32 0) := HE4.out.bz.cell 4
  have f0 := HE4.out.bz.frozen 0
  have f1 := HE4.out.bz.frozen 1
  have f2 := HE4.out.bz.frozen 2
  have f3 := HE4.out.bz.frozen 3
  have f4 := HE4.out.bz.frozen 4
  have HF := hid (HE4.out.fin HW.out (.bool (decide (z < 0))) (dgV z.natAbs 0) (dgV z.natAbs 1) (dgV z.natAbs 2) (dgV z.natAbs 3))
  unfold wideX
  go_wp2
  exact bodyPost_ret (v := .tuple #[wideV z, .bool true]) (results_blk2 (g := h) rfl rfl rfl agg_wide HF.out.1) rfl ⟨rfl, HF.out.2⟩

end Go.Proofs.Qxb6500890aDoor
