/- AddWide. -/
import Derived.Test.Qxb6500890aDoorTextWideMulW
import Derived.Deep.DeepCutAuto
namespace Go.Proofs.Qxb6500890aDoor
open Go.RowKit
set_option linter.unusedSimpArgs false
set_option linter.unusedVariables false

theorem add_same {x y : Int} (h : decide (x < 0) = decide (y < 0)) : (if decide (x < 0) = true then -((x.natAbs + y.natAbs : Nat) : Int) else ((x.natAbs + y.natAbs : Nat) : Int)) = x + y := by
  by_cases hx : x < 0 <;> by_cases hy : y < 0 <;> simp [hx, hy] at h ⊢ <;> omega
theorem add_left {x y : Int} (h : decide (x < 0) ≠ decide (y < 0)) (hl : y.natAbs ≤ x.natAbs) : (if decide (x < 0) = true then -((x.natAbs - y.natAbs : Nat) : Int) else ((x.natAbs - y.natAbs : Nat) : Int)) = x + y := by
  by_cases hx : x < 0 <;> by_cases hy : y < 0 <;> simp [hx, hy] at h ⊢ <;> omega
theorem add_right {x y : Int} (h : decide (x < 0) ≠ decide (y < 0)) (hl : x.natAbs ≤ y.natAbs) : (if decide (y < 0) = true then -((y.natAbs - x.natAbs : Nat) : Int) else ((y.natAbs - x.natAbs : Nat) : Int)) = x + y := by
  by_cases hx : x < 0 <;> by_cases hy : y < 0 <;> simp [hx, hy] at h ⊢ <;> omega

set_option maxRecDepth 100000 in
set_option maxHeartbeats 2000000 in
theorem addWide_walk (x y : Int) (hx : x.natAbs < 170141183460469231731687303715884105728) (hy : y.natAbs < 170141183460469231731687303715884105728) (w : World) :
    Calls Tryd.prog 75 #[wideV x, wideV y] w fun e w' => e = .returned (wideV (x + y)) ∧ Below w.heap.size w w' := by
  obtain ⟨h, hh⟩ : ∃ h, w.heap.size = h := ⟨_, rfl⟩
  have HT := hid (Tri.start w (wideL x) (wideL y))
  rw [hh] at HT
  obtain ⟨wr, hwr⟩ : ∃ wr, (((w.alloc (.cells (wideL x).toArray 87)).alloc (.cells (wideL y).toArray 87)).alloc (.cells zeroL.toArray 87)) = wr := ⟨_, rfl⟩
  rw [hwr] at HT
  have HW : Hid (w.heap.size ≤ h) := hid (by omega)
  obtain ⟨X, W, hT, hI⟩ := class_mk (Tri w h (wideL x) (wideL y))
  have HC : Hid (∀ q w', Below (W q).heap.size (W q) w' → ∃ y, w' = W y) := hid (fun q w' hb => hI _ ((hT q).below hb))
  have H0 : Hid (∀ v, Tri w h (wideL x) (wideL y) v → ∃ q, v.drew = W q) := hid (fun v hv => hI _ (hv.below (Drew.below ⟨1, rfl⟩ _)))
  have hne : Nonempty X := ⟨(H0.out wr HT.out).choose⟩
  have a0 := fun q => (hT q).p.1
  have a1 := fun q => (hT q).p.2.1
  have a2 := fun q => (hT q).p.2.2.1
  have a3 := fun q => (hT q).p.2.2.2.1
  have a4 := fun q => (hT q).p.2.2.2.2.1
  have b0 := fun q => (hT q).p.2.2.2.2.2.1
  have b1 := fun q => (hT q).p.2.2.2.2.2.2.1
  have b2 := fun q => (hT q).p.2.2.2.2.2.2.2.1
  have b3 := fun q => (hT q).p.2.2.2.2.2.2.2.2.1
  have b4 := fun q => (hT q).p.2.2.2.2.2.2.2.2.2
  have HX := hid hT
  clear hT hI
  have HE := hid (wideX_eq (x + y))
  obtain ⟨p0, p1, p2, p3, p4, r0, r1, r2, r3, r4⟩ := HT.out.p
  by_cases hs : decide (x < 0) = decide (y < 0)
  · have HM := hid (fun w => addMag_walk x.natAbs y.natAbs w)
    have HG : Hid (∀ w, Calls Tryd.prog 88 #[.bool (decide (x < 0)), magV (x.natAbs + y.natAbs)] w fun e w' => e = .returned (wideX (x + y)) ∧ Below w.heap.size w w') := hid (fun w => by
      have := signed_walk (decide (x < 0)) (x.natAbs + y.natAbs) (by omega) w
      rw [add_same hs] at this
      exact this)
    clear hx hy
    rw [← hs] at b0 r0
    generalize decide (x < 0) = sx at *
    clear hs
    unfold wideV
    go_enter Tryd.func75, Tryd.ntmps75
    go_upto_region 1 with fail
    have hwr' : (((w.alloc (.cells (wideL x).toArray 87)).alloc (.cells (wideL y).toArray 87)).alloc (Obj.cells #[Value.bool false, Value.int IntKind.u32 0, Value.int IntKind.u32 0, Value.int IntKind.u32 0, Value.int IntKind.u32 0] 87)) = wr := hwr
    rw [hwr']
    clear hwr hwr' hh
    go_wp2_with fail
    refine wp_region_class_last W rfl (by kernel_rfl) (by kernel_rfl) (by kernel_rfl) (H0.out wr HT.out) ?_
    dsimp only [List.dropLast, List.getLast]
    repeat (go_big_quiet_step (first
      | (go_at_call 89; exact Calls.class_of HC.out (HM.out _))
      | (go_at_call 88; exact Calls.class_of HC.out (HG.out _))))
    refine wpQuiet_nil ?_
    intro q
    have HT2 := hid (HX.out q)
    generalize W q = wx at *
    clear a0 a1 a2 a3 a4 b0 b1 b2 b3 b4 HX H0 HC hne
    obtain ⟨e0, e1, e2, e3, e4, f0, f1, f2, f3, f4⟩ := HT2.out.s
    have HF := hid (HT2.out.fin HW.out (.bool (decide (x + y < 0))) (dgV (x + y).natAbs 0) (dgV (x + y).natAbs 1) (dgV (x + y).natAbs 2) (dgV (x + y).natAbs 3))
    unfold wideX
    go_wp2
    exact bodyPost_ret (v := wideV (x + y)) (results_blk (g := h + 2) rfl rfl agg_wide HF.out.1) rfl ⟨rfl, HF.out.2⟩
  have hs' : (decide (x < 0) == decide (y < 0)) = false := by simpa using hs
  by_cases hl : y.natAbs ≤ x.natAbs
  · have HM := hid (fun w => subMag_walk x.natAbs y.natAbs hl w)
    have HK := hid (fun w => cmpMag_walk x.natAbs y.natAbs (by simp only [B32]; omega) (by simp only [B32]; omega) w)
    have HL := hid hl
    have HG : Hid (∀ w, Calls Tryd.prog 88 #[.bool (decide (x < 0)), magV (x.natAbs - y.natAbs)] w fun e w' => e = .returned (wideX (x + y)) ∧ Below w.heap.size w w') := hid (fun w => by
      have := signed_walk (decide (x < 0)) (x.natAbs - y.natAbs) (by omega) w
      rw [add_left hs hl] at this
      exact this)
    clear hx hy hs hl
    generalize decide (x < 0) = sx at *
    generalize decide (y < 0) = sy at *
    unfold wideV
    go_enter Tryd.func75, Tryd.ntmps75
    go_upto_region 1 with fail
    have hwr' : (((w.alloc (.cells (wideL x).toArray 87)).alloc (.cells (wideL y).toArray 87)).alloc (Obj.cells #[Value.bool false, Value.int IntKind.u32 0, Value.int IntKind.u32 0, Value.int IntKind.u32 0, Value.int IntKind.u32 0] 87)) = wr := hwr
    rw [hwr']
    clear hwr hwr' hh
    go_wp2_with fail
    refine (HK.out _).mono ?_
    rintro e w1 ⟨c, rfl, hc, hb1⟩
    rw [show decide (y.natAbs ≤ x.natAbs) = true from decide_eq_true HL.out] at hc
    have HT1 := hid (HT.out.below hb1)
    clear hb1 p0 p1 p2 p3 p4 r0 r1 r2 r3 r4
    go_wp2_with fail
    refine wp_region_class_last W rfl (by kernel_rfl) (by kernel_rfl) (by kernel_rfl) (H0.out w1 HT1.out) ?_
    dsimp only [List.dropLast, List.getLast]
    repeat (go_big_quiet_step (first
      | (go_at_call 91; exact Calls.class_of HC.out (HM.out _))
      | (go_at_call 88; exact Calls.class_of HC.out (HG.out _))))
    refine wpQuiet_nil ?_
    intro q
    have HT2 := hid (HX.out q)
    generalize W q = wx at *
    clear a0 a1 a2 a3 a4 b0 b1 b2 b3 b4 HX H0 HC hne
    obtain ⟨e0, e1, e2, e3, e4, f0, f1, f2, f3, f4⟩ := HT2.out.s
    have HF := hid (HT2.out.fin HW.out (.bool (decide (x + y < 0))) (dgV (x + y).natAbs 0) (dgV (x + y).natAbs 1) (dgV (x + y).natAbs 2) (dgV (x + y).natAbs 3))
    unfold wideX
    go_wp2
    exact bodyPost_ret (v := wideV (x + y)) (results_blk (g := h + 2) rfl rfl agg_wide HF.out.1) rfl ⟨rfl, HF.out.2⟩
  · have HM := hid (fun w => subMag_walk y.natAbs x.natAbs (by omega) w)
    have HK := hid (fun w => cmpMag_walk x.natAbs y.natAbs (by simp only [B32]; omega) (by simp only [B32]; omega) w)
    have HL := hid hl
    have HG : Hid (∀ w, Calls Tryd.prog 88 #[.bool (decide (y < 0)), magV (y.natAbs - x.natAbs)] w fun e w' => e = .returned (wideX (x + y)) ∧ Below w.heap.size w w') := hid (fun w => by
      have := signed_walk (decide (y < 0)) (y.natAbs - x.natAbs) (by omega) w
      rw [add_right hs (by omega)] at this
      exact this)
    clear hx hy hs hl
    generalize decide (x < 0) = sx at *
    generalize decide (y < 0) = sy at *
    unfold wideV
    go_enter Tryd.func75, Tryd.ntmps75
    go_upto_region 1 with fail
    have hwr' : (((w.alloc (.cells (wideL x).toArray 87)).alloc (.cells (wideL y).toArray 87)).alloc (Obj.cells #[Value.bool false, Value.int IntKind.u32 0, Value.int IntKind.u32 0, Value.int IntKind.u32 0, Value.int IntKind.u32 0] 87)) = wr := hwr
    rw [hwr']
    clear hwr hwr' hh
    go_wp2_with fail
    refine (HK.out _).mono ?_
    rintro e w1 ⟨c, rfl, hc, hb1⟩
    rw [show decide (y.natAbs ≤ x.natAbs) = false from decide_eq_false HL.out] at hc
    have HT1 := hid (HT.out.below hb1)
    clear hb1 p0 p1 p2 p3 p4 r0 r1 r2 r3 r4
    go_wp2_with fail
    refine wp_region_class_last W rfl (by kernel_rfl) (by kernel_rfl) (by kernel_rfl) (H0.out w1 HT1.out) ?_
    dsimp only [List.dropLast, List.getLast]
    repeat (go_big_quiet_step (first
      | (go_at_call 91; exact Calls.class_of HC.out (HM.out _))
      | (go_at_call 88; exact Calls.class_of HC.out (HG.out _))))
    refine wpQuiet_nil ?_
    intro q
    have HT2 := hid (HX.out q)
    generalize W q = wx at *
    clear a0 a1 a2 a3 a4 b0 b1 b2 b3 b4 HX H0 HC hne
    obtain ⟨e0, e1, e2, e3, e4, f0, f1, f2, f3, f4⟩ := HT2.out.s
    have HF := hid (HT2.out.fin HW.out (.bool (decide (x + y < 0))) (dgV (x + y).natAbs 0) (dgV (x + y).natAbs 1) (dgV (x + y).natAbs 2) (dgV (x + y).natAbs 3))
    unfold wideX
    go_wp2
    exact bodyPost_ret (v := wideV (x + y)) (results_blk (g := h + 2) rfl rfl agg_wide HF.out.1) rfl ⟨rfl, HF.out.2⟩
end Go.Proofs.Qxb6500890aDoor
