/- RemWide. -/
import Derived.Test.Qxb6500890aDoorTextWideQuo
namespace Go.Proofs.Qxb6500890aDoor
open Go.RowKit
set_option linter.unusedSimpArgs false
set_option linter.unusedVariables false

set_option maxRecDepth 100000 in
set_option maxHeartbeats 8000000 in
theorem remWide_walk (x y : Int) (hx : x.natAbs < 18446744073709551616) (hy : y.natAbs < 18446744073709551616) (hy0 : y ≠ 0) (w : World) :
    Calls Tryd.prog 79 #[wideV x, wideV y] w fun e w' => e = .returned (wideV (x.tmod y)) ∧ Below w.heap.size w w' := by
  obtain ⟨h, hh⟩ : ∃ h, w.heap.size = h := ⟨_, rfl⟩
  have HT := hid (Tri.start w (wideL x) (wideL y))
  rw [hh] at HT
  obtain ⟨wr, hwr⟩ : ∃ wr, (((w.alloc (.cells (wideL x).toArray 87)).alloc (.cells (wideL y).toArray 87)).alloc (.cells zeroL.toArray 87)) = wr := ⟨_, rfl⟩
  rw [hwr] at HT
  have HW : Hid (w.heap.size ≤ h) := hid (by omega)
  have hmul : x.natAbs % y.natAbs < 18446744073709551616 := Nat.lt_of_le_of_lt (Nat.mod_le _ _) hx
  have HLx : Hid (∀ w, Calls Tryd.prog 80 #[.agg #[.int .u32 (dg x.natAbs 0 : Nat), .int .u32 (dg x.natAbs 1 : Nat), .int .u32 (dg x.natAbs 2 : Nat), .int .u32 (dg x.natAbs 3 : Nat)]] w fun e w' => e = .returned (.int .u64 (x.natAbs : Nat)) ∧ Below w.heap.size w w') := hid (fun w => low_walk x.natAbs hx w)
  have HLy : Hid (∀ w, Calls Tryd.prog 80 #[.agg #[.int .u32 (dg y.natAbs 0 : Nat), .int .u32 (dg y.natAbs 1 : Nat), .int .u32 (dg y.natAbs 2 : Nat), .int .u32 (dg y.natAbs 3 : Nat)]] w fun e w' => e = .returned (.int .u64 (y.natAbs : Nat)) ∧ Below w.heap.size w w') := hid (fun w => low_walk y.natAbs hy w)
  have hwq : IntKind.u64.wrap ((x.natAbs : Int) % (y.natAbs : Int)) = (x.natAbs : Int) % (y.natAbs : Int) := by
    rw [← Int.natCast_emod, IntKind.wrap_u64]
    generalize hgen : x.natAbs % y.natAbs = m at *
    omega
  have HM : Hid (∀ w, Calls Tryd.prog 87 #[.int .u64 ((x.natAbs : Int) % (y.natAbs : Int))] w fun e w' => e = .returned (magV (x.natAbs % y.natAbs)) ∧ Below w.heap.size w w') := hid (fun w => by
    have := fromUint64_walk (x.natAbs % y.natAbs) hmul w
    rw [Int.natCast_emod] at this
    exact this)
  have HG : Hid (∀ w, Calls Tryd.prog 88 #[.bool (decide (x < 0)), magV (x.natAbs % y.natAbs)] w fun e w' => e = .returned (wideX (x.tmod y)) ∧ Below w.heap.size w w') := hid (fun w => by
    rw [wideX_eq]
    have := signed_walk (decide (x < 0)) (x.natAbs % y.natAbs) (by omega) w
    rw [rem_sign] at this
    exact this)
  have hyn : ((y.natAbs : Nat) : Int) ≠ 0 := by omega
  have hyn' : (((y.natAbs : Nat) : Int) == 0) = false := by simp; omega
  have hyp : (0 : Int) < ((y.natAbs : Nat) : Int) := by omega
  obtain ⟨qq, hqq⟩ : ∃ qq, x.tmod y = qq := ⟨_, rfl⟩
  rw [hqq] at HG ⊢
  clear hqq
  clear hmul hy0
  obtain ⟨X, W, hT, hI⟩ := class_mk (Tri w h (wideL x) (wideL y))
  have HC : Hid (∀ q w', Below (W q).heap.size (W q) w' → ∃ y, w' = W y) := hid (fun q w' hb => hI _ ((hT q).below hb))
  have H0 : Hid (∃ q, wr.drew = W q) := hid (hI _ (HT.out.below (Drew.below ⟨1, rfl⟩ _)))
  have hne : Nonempty X := ⟨H0.out.choose⟩
  have a0 := fun q => (hT q).p.1
  have a1 := fun q => (hT q).p.2.1
  have a2 := fun q => (hT q).p.2.2.1
  have a3 := fun q => (hT q).p.2.2.2.1
  have a4 := fun q => (hT q).p.2.2.2.2.1
  have b0 := fun q => (hT q).p.2.2.2.2.2.1
  have b1 := fun q => (hT q).p.2.2.2.2.2.2.1
  have b2 := fun q => (hT q).p.2.2.2.2.2.2.2.1
  have b3 := fun q => (hT q).p.2.2.2.2.2.2.2.2.1
  have b4 := fun q => (hT q).p.2.2.2.2.2.2.2.2.2
  have HX := hid hT
  clear hT hI
  generalize hsx : decide (x < 0) = sx at *
  generalize hsy : decide (y < 0) = sy at *
  clear hsx hsy
  unfold wideV
  go_enter Tryd.func79, Tryd.ntmps79
  go_wp2
  have hwr' : (((w.alloc (.cells (wideL x).toArray 87)).alloc (.cells (wideL y).toArray 87)).alloc (Obj.cells #[Value.bool false, Value.int IntKind.u32 0, Value.int IntKind.u32 0, Value.int IntKind.u32 0, Value.int IntKind.u32 0] 87)) = wr := hwr
  rw [hwr']
  clear hwr hwr' hh
  refine wp_region_class_last W rfl (by kernel_rfl) (by kernel_rfl) (by kernel_rfl) H0.out ?_
  dsimp only [List.dropLast, List.getLast]
  repeat (go_big_quiet_step (first
    | (go_at_call 80; first | with_reducible exact Calls.class_of HC.out (HLx.out _) | with_reducible exact Calls.class_of HC.out (HLy.out _))
    | (go_at_call 87; with_reducible exact Calls.class_of HC.out (HM.out _))
    | (go_at_call 88; exact Calls.class_of HC.out (HG.out _))))
  refine wpQuiet_nil ?_
  intro q
  have HT2 := hid (HX.out q)
  generalize W q = wx at *
  clear a0 a1 a2 a3 a4 b0 b1 b2 b3 b4 HX H0 HC hne
  obtain ⟨e0, e1, e2, e3, e4, f0, f1, f2, f3, f4⟩ := HT2.out.s
  have HF := hid (HT2.out.fin HW.out (.bool (decide (qq < 0))) (dgV (qq).natAbs 0) (dgV (qq).natAbs 1) (dgV (qq).natAbs 2) (dgV (qq).natAbs 3))
  unfold wideX
  go_wp2
  exact bodyPost_ret (v := wideV (qq)) (results_blk (g := h + 2) rfl rfl agg_wide HF.out.1) rfl ⟨rfl, HF.out.2⟩

end Go.Proofs.Qxb6500890aDoor
