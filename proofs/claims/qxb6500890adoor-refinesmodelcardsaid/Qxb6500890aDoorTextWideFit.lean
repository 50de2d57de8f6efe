/- NegWide, Fits. -/
import Derived.Test.Qxb6500890aDoorTextWideRem
import Derived.Test.Qxb6500890aDoorTextChk
namespace Go.Proofs.Qxb6500890aDoor
open Go.RowKit
set_option linter.unusedSimpArgs false
set_option linter.unusedVariables false

structure Ng (w : World) (h : Nat) (A : List Value) (wr : World) : Prop where
  bel : Below w.heap.size w wr
  ba : Blk wr h 87 A
  bz : Blk wr (h + 1) 87 zeroL
theorem Ng.below {w wr w' : World} {h : Nat} {A : List Value} (f : Ng w h A wr) (hb : Below wr.heap.size wr w') : Ng w h A w' :=
  ⟨f.bel.trans (hb.mono f.bel.size), f.ba.below hb, f.bz.below hb⟩
theorem Ng.start (w : World) (A : List Value) : Ng w w.heap.size A ((w.alloc (.cells A.toArray 87)).alloc (.cells zeroL.toArray 87)) := by
  have s1 : ∀ (x : World) (o : Obj), (x.alloc o).heap.size = x.heap.size + 1 := fun x o => by simp
  refine ⟨Below.alloc (Below.alloc (Below.refl _ _) (Nat.le_refl _) _) (by rw [s1]; omega) _, (Blk.new w A _).alloc _, ?_⟩
  have := Blk.new (w.alloc (.cells A.toArray 87)) zeroL 87
  rw [s1] at this
  exact this
theorem Ng.fin {w wr : World} {h : Nat} {A : List Value} (f : Ng w h A wr) (hh : w.heap.size ≤ h) (v0 v1 v2 v3 v4 : Value) :
    Blk (set5 wr (h + 1) v0 v1 v2 v3 v4) (h + 1) 87 [v0, v1, v2, v3, v4] ∧ Below w.heap.size w (set5 wr (h + 1) v0 v1 v2 v3 v4) :=
  ⟨set5_blk f.bz .., f.bel.trans ((set5_upd ..).below (by omega) f.bel.size)⟩

theorem neg_sign (x : Int) : (if (!decide (x < 0)) = true then -((x.natAbs : Nat) : Int) else ((x.natAbs : Nat) : Int)) = -x := by
  by_cases hx : x < 0 <;> simp [hx] <;> omega

set_option maxRecDepth 100000 in
set_option maxHeartbeats 1000000 in
theorem negWide_walk (x : Int) (hx : x.natAbs < 340282366920938463463374607431768211456) (w : World) :
    Calls Tryd.prog 76 #[wideV x] w fun e w' => e = .returned (wideV (-x)) ∧ Below w.heap.size w w' := by
  obtain ⟨h, hh⟩ : ∃ h, w.heap.size = h := ⟨_, rfl⟩
  have HN := hid (Ng.start w (wideL x))
  rw [hh] at HN
  obtain ⟨wr, hwr⟩ : ∃ wr, ((w.alloc (.cells (wideL x).toArray 87)).alloc (.cells zeroL.toArray 87)) = wr := ⟨_, rfl⟩
  rw [hwr] at HN
  have HW : Hid (w.heap.size ≤ h) := hid (by omega)
  obtain ⟨qq, hqq⟩ : ∃ qq, -x = qq := ⟨_, rfl⟩
  have HG : Hid (∀ w, Calls Tryd.prog 88 #[.bool (!decide (x < 0)), magV x.natAbs] w fun e w' => e = .returned (wideX qq) ∧ Below w.heap.size w w') := hid (fun w => by
    rw [wideX_eq, ← hqq]
    have := signed_walk (!decide (x < 0)) x.natAbs hx w
    rw [neg_sign] at this
    exact this)
  rw [hqq]
  have a0 : wr.cell? ⟨h, 0, none⟩ = some (.bool (decide (x < 0))) := HN.out.ba.cell 0
  have a1 : wr.cell? ⟨h, 1, none⟩ = some (.int .u32 (dg x.natAbs 0 : Nat)) := HN.out.ba.cell 1
  have a2 : wr.cell? ⟨h, 2, none⟩ = some (.int .u32 (dg x.natAbs 1 : Nat)) := HN.out.ba.cell 2
  have a3 : wr.cell? ⟨h, 3, none⟩ = some (.int .u32 (dg x.natAbs 2 : Nat)) := HN.out.ba.cell 3
  have a4 : wr.cell? ⟨h, 4, none⟩ = some (.int .u32 (dg x.natAbs 3 : Nat)) := HN.out.ba.cell 4
  clear hqq hx
  generalize decide (x < 0) = sx at *
  unfold wideV
  go_enter Tryd.func76, Tryd.ntmps76
  go_upto_region 1 with fail
  have hwr' : ((w.alloc (.cells (wideL x).toArray 87)).alloc (Obj.cells #[Value.bool false, Value.int IntKind.u32 0, Value.int IntKind.u32 0, Value.int IntKind.u32 0, Value.int IntKind.u32 0] 87)) = wr := hwr
  rw [hwr']
  clear hwr hwr' hh
  go_wp2_with fail
  refine (HG.out _).mono ?_
  rintro e w1 ⟨rfl, hb1⟩
  have HN1 := hid (HN.out.below hb1)
  clear hb1 a0 a1 a2 a3 a4
  have e0 : w1.cell? ⟨h + 1, 0, none⟩ = some (.bool false) := HN1.out.bz.cell 0
  have e1 : w1.cell? ⟨h + 1, 1, none⟩ = some (.int .u32 0) := HN1.out.bz.cell 1
  have e2 : w1.cell? ⟨h + 1, 2, none⟩ = some (.int .u32 0) := HN1.out.bz.cell 2
  have e3 : w1.cell? ⟨h + 1, 3, none⟩ = some (.int .u32 0) := HN1.out.bz.cell 3
  have e4 : w1.cell? ⟨h + 1, 4, none⟩ = some (.int .u32 0) := HN1.out.bz.cell 4
  have f0 := HN1.out.bz.frozen 0
  have f1 := HN1.out.bz.frozen 1
  have f2 := HN1.out.bz.frozen 2
  have f3 := HN1.out.bz.frozen 3
  have f4 := HN1.out.bz.frozen 4
  have HF := hid (HN1.out.fin HW.out (.bool (decide (qq < 0))) (dgV qq.natAbs 0) (dgV qq.natAbs 1) (dgV qq.natAbs 2) (dgV qq.natAbs 3))
  unfold wideX
  go_wp2
  exact bodyPost_ret (v := wideV qq) (results_blk (g := h + 1) rfl rfl agg_wide HF.out.1) rfl ⟨rfl, HF.out.2⟩

theorem neg_back {m : Nat} (h1 : 1 ≤ m) (h2 : m ≤ 9223372036854775808) : wrap64 (IntKind.u64.wrap (bits .xor .u64 IntKind.u64.max (m : Int) + 1)) = -(m : Int) := by
  have e2 : IntKind.u64.max = ((18446744073709551615 : Nat) : Int) := rfl
  rw [e2, bits_xor_u64_nat _ _ (by decide) (by omega), xor_full _ (by omega), IntKind.wrap_u64]
  unfold wrap64
  omega
theorem high_zero {v : Nat} (hv : v < 340282366920938463463374607431768211456) : (dg v 2 = 0 ∧ dg v 3 = 0) ↔ v < 18446744073709551616 := by
  rw [dg2, dg3]
  omega

set_option maxRecDepth 100000 in
set_option maxHeartbeats 1000000 in
theorem fits_walk (z : Int) (hz : z.natAbs < 340282366920938463463374607431768211456) (w : World) :
    Calls Tryd.prog 52 #[wideV z] w fun e w' => e = .returned (.tuple #[.int .i64 (fitOut z).1, .bool (decide (I64 z))]) ∧ Below w.heap.size w w' := by
  obtain ⟨h, hh⟩ : ∃ h, w.heap.size = h := ⟨_, rfl⟩
  obtain ⟨wr, hwr⟩ : ∃ wr, w.alloc (.cells (wideL z).toArray 87) = wr := ⟨_, rfl⟩
  have HBk : Hid (Blk wr h 87 (wideL z)) := by subst hwr hh; exact hid (Blk.new _ _ _)
  have HBl : Hid (Below w.heap.size w wr) := by subst hwr; exact hid (Below.alloc (Below.refl _ _) (Nat.le_refl _) _)
  have a0 : wr.cell? ⟨h, 0, none⟩ = some (.bool (decide (z < 0))) := HBk.out.cell 0
  have a1 : wr.cell? ⟨h, 1, none⟩ = some (.int .u32 (dg z.natAbs 0 : Nat)) := HBk.out.cell 1
  have a2 : wr.cell? ⟨h, 2, none⟩ = some (.int .u32 (dg z.natAbs 1 : Nat)) := HBk.out.cell 2
  have a3 : wr.cell? ⟨h, 3, none⟩ = some (.int .u32 (dg z.natAbs 2 : Nat)) := HBk.out.cell 3
  have a4 : wr.cell? ⟨h, 4, none⟩ = some (.int .u32 (dg z.natAbs 3 : Nat)) := HBk.out.cell 4
  have hhz := high_zero hz
  unfold wideV
  by_cases hs : z.natAbs < 18446744073709551616
  · obtain ⟨z2, z3⟩ := hhz.2 hs
    rw [z2] at a3
    rw [z3] at a4
    have HL := hid (fun w => low_walk z.natAbs hs w)
    have hL' : Hid (∀ w, Calls Tryd.prog 80 #[.agg #[.int .u32 (dg z.natAbs 0 : Nat), .int .u32 (dg z.natAbs 1 : Nat), .int .u32 0, .int .u32 0]] w fun e w' => e = .returned (.int .u64 (z.natAbs : Nat)) ∧ Below w.heap.size w w') := by
      refine hid (fun w => ?_)
      have := HL.out w
      unfold magV magL dgV at this
      rw [z2, z3] at this
      exact this
    clear HL hhz
    go_enter Tryd.func52, Tryd.ntmps52
    go_wp2_with fail
    refine (hL'.out _).mono ?_
    rintro e w1 ⟨rfl, hb1⟩
    have HB1 : Hid (Below w.heap.size w w1) := hid (HBl.out.trans (hb1.mono HBl.out.size))
    have b0 : w1.cell? ⟨h, 0, none⟩ = some (.bool (decide (z < 0))) := by rw [hb1.cell (p := ⟨h, 0, none⟩) HBk.out.lt]; exact a0
    clear hb1 a0 a1 a2 a3 a4 hwr hh z2 z3
    by_cases hn : z < 0
    · rw [decide_eq_true hn] at b0
      by_cases hb : 9223372036854775808 < z.natAbs
      · have d : decide ((9223372036854775808 : Int) < (z.natAbs : Int)) = true := decide_eq_true (by omega)
        have HF : Hid (¬ I64 z) := hid (fun h => by have := h.1; omega)
        clear hb hn hs hz
        go_wp2
        go_ret2
        exact ⟨by rw [fit_false (decide_eq_false HF.out), decide_eq_false HF.out]; rfl, HB1.out⟩
      · have d : decide ((9223372036854775808 : Int) < (z.natAbs : Int)) = false := decide_eq_false (by omega)
        have HF : Hid (I64 z) := hid ⟨by omega, by omega⟩
        have HV := hid ((neg_back (m := z.natAbs) (by omega) (by omega)).trans (show -((z.natAbs : Nat) : Int) = z by omega))
        clear hb hn hs hz
        go_wp2
        go_ret2
        exact ⟨by rw [fit_true (decide_eq_true HF.out), decide_eq_true HF.out, wrap_fit HF.out]; exact congrArg (fun v => Ending.returned (.tuple #[.int .i64 v, .bool true])) HV.out, HB1.out⟩
    · rw [decide_eq_false hn] at b0
      by_cases hb : 9223372036854775807 < z.natAbs
      · have d : decide ((9223372036854775807 : Int) < (z.natAbs : Int)) = true := decide_eq_true (by omega)
        have HF : Hid (¬ I64 z) := hid (fun h => by have := h.2; omega)
        clear hb hn hs hz
        go_wp2
        go_ret2
        exact ⟨by rw [fit_false (decide_eq_false HF.out), decide_eq_false HF.out]; rfl, HB1.out⟩
      · have d : decide ((9223372036854775807 : Int) < (z.natAbs : Int)) = false := decide_eq_false (by omega)
        have HF : Hid (I64 z) := hid ⟨by omega, by omega⟩
        have hb' : (z.natAbs : Int) ≤ 9223372036854775807 := by omega
        have HZ : Hid (((z.natAbs : Nat) : Int) = z) := hid (by omega)
        clear hb hn hs hz
        go_wp2
        go_ret2
        exact ⟨by rw [fit_true (decide_eq_true HF.out), decide_eq_true HF.out, wrap_fit HF.out, ← HZ.out]; rfl, HB1.out⟩
  · have HF : Hid (¬ I64 z) := hid (fun h => by have := h.1; have := h.2; omega)
    rw [fit_false (decide_eq_false HF.out), decide_eq_false HF.out]
    by_cases h2 : dg z.natAbs 2 = 0
    · have h3 : ¬ dg z.natAbs 3 = 0 := fun h3 => hs (hhz.1 ⟨h2, h3⟩)
      have q2 : (((dg z.natAbs 2 : Nat) : Int) != 0) = false := by simp [h2]
      have q3 : (((dg z.natAbs 3 : Nat) : Int) != 0) = true := by simp [h3]
      clear hhz h2 h3 hs hz
      go_enter Tryd.func52, Tryd.ntmps52
      go_wp2
      go_ret2
      exact ⟨rfl, HBl.out⟩
    · have q2 : (((dg z.natAbs 2 : Nat) : Int) != 0) = true := by simp [h2]
      clear hhz h2 hs hz
      go_enter Tryd.func52, Tryd.ntmps52
      go_wp2
      go_ret2
      exact ⟨rfl, HBl.out⟩
end Go.Proofs.Qxb6500890aDoor
