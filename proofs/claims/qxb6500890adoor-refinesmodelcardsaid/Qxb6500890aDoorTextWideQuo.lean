/- lowUint64, QuoWide, RemWide. -/
import Derived.Test.Qxb6500890aDoorTextWideAddW
import Derived.Laws.Bits64
namespace Go.Proofs.Qxb6500890aDoor
open Go.RowKit
set_option linter.unusedSimpArgs false
set_option linter.unusedVariables false

theorem quo_sign (x y : Int) : (if (decide (x < 0) != decide (y < 0)) = true then -((x.natAbs / y.natAbs : Nat) : Int) else ((x.natAbs / y.natAbs : Nat) : Int)) = x.tdiv y := by
  have key : ∀ (u v : Int), 0 ≤ u → 0 ≤ v → ((u.natAbs / v.natAbs : Nat) : Int) = u.tdiv v := fun u v hu hv => by
    obtain ⟨m, rfl⟩ := Int.eq_ofNat_of_zero_le hu
    obtain ⟨k, rfl⟩ := Int.eq_ofNat_of_zero_le hv
    simp
  by_cases hx : x < 0 <;> by_cases hy : y < 0 <;> simp only [hx, hy, decide_true, decide_false, bne_self_eq_false, Bool.false_eq_true, if_false, Bool.true_bne, Bool.false_bne, Bool.not_false, if_true]
  · have := key (-x) (-y) (by omega) (by omega)
    rw [Int.natAbs_neg, Int.natAbs_neg, Int.neg_tdiv_neg] at this
    exact this
  · have := key (-x) y (by omega) (by omega)
    rw [Int.natAbs_neg, Int.neg_tdiv] at this
    omega
  · have := key x (-y) (by omega) (by omega)
    rw [Int.natAbs_neg, Int.tdiv_neg] at this
    omega
  · exact key x y (by omega) (by omega)
theorem rem_sign (x y : Int) : (if decide (x < 0) = true then -((x.natAbs % y.natAbs : Nat) : Int) else ((x.natAbs % y.natAbs : Nat) : Int)) = x.tmod y := by
  have h := Int.natAbs_tmod x y
  by_cases hx : x < 0
  · simp only [hx, decide_true, if_true]
    have : 0 ≤ (-x).tmod y := Int.tmod_nonneg y (by omega)
    rw [Int.neg_tmod] at this
    omega
  · simp only [hx, decide_false, Bool.false_eq_true, if_false]
    have : 0 ≤ x.tmod y := Int.tmod_nonneg y (by omega)
    omega

theorem or_join (d1 d0 : Nat) (h1 : d1 < 4294967296) (h0 : d0 < 4294967296) : bits .or .u64 ((d1 : Int) * 4294967296) (d0 : Int) = ((4294967296 * d1 + d0 : Nat) : Int) := by
  have e : ((d1 : Int) * 4294967296) = ((4294967296 * d1 : Nat) : Int) := by simp [Int.mul_comm]
  rw [e, bits_or_u64_nat _ _ (by omega) (by omega)]
  have := Nat.two_pow_add_eq_or_of_lt (i := 32) h0 d1
  rw [show (2 : Nat) ^ 32 = 4294967296 from rfl] at this
  rw [this]

set_option maxRecDepth 100000 in
set_option maxHeartbeats 1000000 in
theorem low_walk (v : Nat) (hv : v < 18446744073709551616) (w : World) :
    Calls Tryd.prog 80 #[magV v] w fun e w' => e = .returned (.int .u64 (v : Int)) ∧ Below w.heap.size w w' := by
  have e0 : dg v 0 = v % 4294967296 := dg0 v
  have e1 : dg v 1 = v / 4294967296 := by rw [dg1]; omega
  have l0 := dg_lt v 0
  have l1 := dg_lt v 1
  have HE : Hid (v = 4294967296 * dg v 1 + dg v 0) := hid (by omega)
  unfold magV magL dgV
  clear e0 e1 hv
  generalize dg v 0 = d0 at *
  generalize dg v 1 = d1 at *
  generalize dg v 2 = d2 at *
  generalize dg v 3 = d3 at *
  go_enter Tryd.func80, Tryd.ntmps80
  have HO := hid (or_join d1 d0 l1 l0)
  go_wp2
  go_ret
  exact ⟨by rw [HE.out, ← HO.out]; rfl, Below.alloc (Below.refl _ _) (Nat.le_refl _) _⟩

set_option maxRecDepth 100000 in
set_option maxHeartbeats 8000000 in
theorem quoWide_walk (x y : Int) (hx : x.natAbs < 18446744073709551616) (hy : y.natAbs < 18446744073709551616) (hy0 : y ≠ 0) (w : World) :
    Calls Tryd.prog 78 #[wideV x, wideV y] w fun e w' => e = .returned (wideV (x.tdiv y)) ∧ Below w.heap.size w w' := by
  obtain ⟨h, hh⟩ : ∃ h, w.heap.size = h := ⟨_, rfl⟩
  have HT := hid (Tri.start w (wideL x) (wideL y))
  rw [hh] at HT
  obtain ⟨wr, hwr⟩ : ∃ wr, (((w.alloc (.cells (wideL x).toArray 87)).alloc (.cells (wideL y).toArray 87)).alloc (.cells zeroL.toArray 87)) = wr := ⟨_, rfl⟩
  rw [hwr] at HT
  have HW : Hid (w.heap.size ≤ h) := hid (by omega)
  have hmul : x.natAbs / y.natAbs < 18446744073709551616 := Nat.lt_of_le_of_lt (Nat.div_le_self _ _) hx
  have HLx : Hid (∀ w, Calls Tryd.prog 80 #[.agg #[.int .u32 (dg x.natAbs 0 : Nat), .int .u32 (dg x.natAbs 1 : Nat), .int .u32 (dg x.natAbs 2 : Nat), .int .u32 (dg x.natAbs 3 : Nat)]] w fun e w' => e = .returned (.int .u64 (x.natAbs : Nat)) ∧ Below w.heap.size w w') := hid (fun w => low_walk x.natAbs hx w)
  have HLy : Hid (∀ w, Calls Tryd.prog 80 #[.agg #[.int .u32 (dg y.natAbs 0 : Nat), .int .u32 (dg y.natAbs 1 : Nat), .int .u32 (dg y.natAbs 2 : Nat), .int .u32 (dg y.natAbs 3 : Nat)]] w fun e w' => e = .returned (.int .u64 (y.natAbs : Nat)) ∧ Below w.heap.size w w') := hid (fun w => low_walk y.natAbs hy w)
  have hwq : IntKind.u64.wrap ((x.natAbs : Int) / (y.natAbs : Int)) = (x.natAbs : Int) / (y.natAbs : Int) := by
    rw [← Int.natCast_ediv, IntKind.wrap_u64]
    generalize hgen : x.natAbs / y.natAbs = m at *
    omega
  have HM : Hid (∀ w, Calls Tryd.prog 87 #[.int .u64 ((x.natAbs : Int) / (y.natAbs : Int))] w fun e w' => e = .returned (magV (x.natAbs / y.natAbs)) ∧ Below w.heap.size w w') := hid (fun w => by
    have := fromUint64_walk (x.natAbs / y.natAbs) hmul w
    rw [Int.natCast_ediv] at this
    exact this)
  have HG : Hid (∀ w, Calls Tryd.prog 88 #[.bool (decide (x < 0) != decide (y < 0)), magV (x.natAbs / y.natAbs)] w fun e w' => e = .returned (wideX (x.tdiv y)) ∧ Below w.heap.size w w') := hid (fun w => by
    rw [wideX_eq]
    have := signed_walk (decide (x < 0) != decide (y < 0)) (x.natAbs / y.natAbs) (by omega) w
    rw [quo_sign] at this
    exact this)
  have hyn : ((y.natAbs : Nat) : Int) ≠ 0 := by omega
  have hyn' : (((y.natAbs : Nat) : Int) == 0) = false := by simp; omega
  have hyp : (0 : Int) < ((y.natAbs : Nat) : Int) := by omega
  obtain ⟨qq, hqq⟩ : ∃ qq, x.tdiv y = qq := ⟨_, rfl⟩
  rw [hqq] at HG ⊢
  clear hqq
  clear hmul hy0
  obtain ⟨X, W, hT, hI⟩ := class_mk (Tri w h (wideL x) (wideL y))
  have HC : Hid (∀ q w', Below (W q).heap.size (W q) w' → ∃ y, w' = W y) := hid (fun q w' hb => hI _ ((hT q).below hb))
  have H0 : Hid (∃ q, wr.drew = W q) := hid (hI _ (HT.out.below (Drew.below ⟨1, rfl⟩ _)))
  have hne : Nonempty X := ⟨H0.out.choose⟩
  have a0 := fun q => (hT q).p.1
  have a1 := fun q => (hT q).p.2.1
  have a2 := fun q => (hT q).p.2.2.1
  have a3 := fun q => (hT q).p.2.2.2.1
  have a4 := fun q => (hT q).p.2.2.2.2.1
  have b0 := fun q => (hT q).p.2.2.2.2.2.1
  have b1 := fun q => (hT q).p.2.2.2.2.2.2.1
  have b2 := fun q => (hT q).p.2.2.2.2.2.2.2.1
  have b3 := fun q => (hT q).p.2.2.2.2.2.2.2.2.1
  have b4 := fun q => (hT q).p.2.2.2.2.2.2.2.2.2
  have HX := hid hT
  clear hT hI
  generalize hsx : decide (x < 0) = sx at *
  generalize hsy : decide (y < 0) = sy at *
  clear hsx hsy
  unfold wideV
  go_enter Tryd.func78, Tryd.ntmps78
  go_wp2
  have hwr' : (((w.alloc (.cells (wideL x).toArray 87)).alloc (.cells (wideL y).toArray 87)).alloc (Obj.cells #[Value.bool false, Value.int IntKind.u32 0, Value.int IntKind.u32 0, Value.int IntKind.u32 0, Value.int IntKind.u32 0] 87)) = wr := hwr
  rw [hwr']
  clear hwr hwr' hh
  refine wp_region_class_last W rfl (by kernel_rfl) (by kernel_rfl) (by kernel_rfl) H0.out ?_
  dsimp only [List.dropLast, List.getLast]
  repeat (go_big_quiet_step (first
    | (go_at_call 80; first | with_reducible exact Calls.class_of HC.out (HLx.out _) | with_reducible exact Calls.class_of HC.out (HLy.out _))
    | (go_at_call 87; with_reducible exact Calls.class_of HC.out (HM.out _))
    | (go_at_call 88; exact Calls.class_of HC.out (HG.out _))))
  refine wpQuiet_nil ?_
  intro q
  have HT2 := hid (HX.out q)
  generalize W q = wx at *
  clear a0 a1 a2 a3 a4 b0 b1 b2 b3 b4 HX H0 HC hne
  obtain ⟨e0, e1, e2, e3, e4, f0, f1, f2, f3, f4⟩ := HT2.out.s
  have HF := hid (HT2.out.fin HW.out (.bool (decide (qq < 0))) (dgV (qq).natAbs 0) (dgV (qq).natAbs 1) (dgV (qq).natAbs 2) (dgV (qq).natAbs 3))
  unfold wideX
  go_wp2
  exact bodyPost_ret (v := wideV (qq)) (results_blk (g := h + 2) rfl rfl agg_wide HF.out.1) rfl ⟨rfl, HF.out.2⟩

end Go.Proofs.Qxb6500890aDoor
