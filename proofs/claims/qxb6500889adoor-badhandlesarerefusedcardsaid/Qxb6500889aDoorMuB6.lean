/- The law BadHandlesAreRefused. -/
import Derived.Test.Qxb6500889aDoorMuB5
namespace Go.Proofs.Qxb6500889aDoor
open Go.RowKit
set_option linter.unusedSimpArgs false
set_option linter.unusedVariables false
set_option maxRecDepth 1000000 in
set_option maxHeartbeats 16000000 in
theorem bad_walk (a : Option Addr) (n c : Nat) (l : List OpP) (w : World) (gb go gc : Nat) (hs : Script w a n c l) (hK : HKi w gb go gc) :
    Calls Tryd.prog 3 #[.slice a n c] w fun e w' => e = .returned (.bool true) ∧ Below w.heap.size w w' := by
  have HSm := hid (fun w => small_walk a n c w)
  have HS := hid hs
  have HK := hid hK
  have HNw := hid (fun w => newWorld_walk w)
  clear hs hK
  by_cases hsm : n ≤ 65536
  rotate_left
  · as_aux_lemma =>
    rw [decide_eq_false hsm] at HSm
    go_enter Tryd.func3, Tryd.ntmps3
    go_wp2_with (go_at_call 5; refine (HSm.out _).mono ?_; rintro e w' ⟨rfl, rfl⟩)
    go_ret
    exact ⟨rfl, Below.refl _ _⟩
  rw [decide_eq_true hsm] at HSm
  have I0 : Hid ((Tryd.prog.info? 36).map (·.size) = some 8) := hid info_rz
  have I1 : Hid ((Tryd.prog.info? 31).map (·.size) = some 5) := hid info_op
  go_enter Tryd.func3, Tryd.ntmps3
  go_wp2_with (go_at_call 5; refine (HSm.out _).mono ?_; rintro e w' ⟨rfl, rfl⟩)
  refine (HNw.out _).mono ?_
  rintro e w1 ⟨ρ1, L1, T1, V1, rfl, hW1, hl1, hb1⟩
  obtain ⟨mB1, hmB1⟩ : ∃ b, w1.heap.size = b := ⟨_, rfl⟩
  have HMn := hid (mnew_walk w1 hmB1)
  have HWs : Hid (∀ w2, MN w2 (fup (fun _ => 0) mB1 1) (N0 mB1) M0 → Below w1.heap.size w1 w2 → WQ w' V1.wB mB1 ⟨0, ρ1, L1, T1, V1, H0, X0, []⟩ M0 (fun g => if g = mB1 then 1 else ρ1 g) w2) := hid (fun w2 h2 b2 => WQ.start hW1 hl1 hb1 hmB1 h2 b2)
  obtain ⟨wB1, hwB1⟩ : ∃ b, V1.wB = b := ⟨_, rfl⟩
  rw [hwB1] at HWs
  rw [hwB1]
  clear hW1 hl1 hb1 HSm hmB1 hwB1
  go_wp2_with fail
  refine HMn.out.mono ?_
  rintro e w2 ⟨rfl, h2, b2⟩
  have HQ1 := hid (HWs.out w2 h2 b2)
  clear HMn HWs h2 b2
  go_wp2_with fail
  refine (HNw.out _).mono ?_
  rintro e w3 ⟨ρ2, L2, T2, V2, rfl, hW2, hl2, hb2⟩
  obtain ⟨mB2, hmB2⟩ : ∃ b, w3.heap.size = b := ⟨_, rfl⟩
  have HMn := hid (mnew_walk w3 hmB2)
  have HWs : Hid (∀ w4, MN w4 (fup (fun _ => 0) mB2 1) (N0 mB2) M0 → Below w3.heap.size w3 w4 → B1 w' wB1 mB1 V2.wB mB2 0 w4) := hid (fun w4 h4 b4 => ⟨_, M0, _, M0, 0, W4.start HQ1.out hW2 hl2 hb2 hmB2 h4 b4, Apt.zero, rfl, Nat.le_refl _⟩)
  obtain ⟨wB2, hwB2⟩ : ∃ b, V2.wB = b := ⟨_, rfl⟩
  rw [hwB2] at HWs
  rw [hwB2]
  clear hW2 hl2 hb2 hmB2 hwB2 HQ1 HNw
  go_wp2_with fail
  refine HMn.out.mono ?_
  rintro e w4 ⟨rfl, h4, b4⟩
  have HB0 := hid (HWs.out w4 h4 b4)
  clear HMn HWs h4 b4
  go_wp2_with fail
  go_loopw [35] (fun v wr => ∃ i : Nat, i ≤ n ∧ v = .int .i64 (i : Int) ∧ Hid (B1 w' wB1 mB1 wB2 mB2 i wr)) (fun v _ => n - (intOf v).toNat)
  case atStart => exact ⟨0, by omega, rfl, HB0⟩
  case round =>
  clear HB0
  obtain ⟨i, hi, rfl, HB⟩ := hrel
  obtain ⟨S1, M1, S2, M2, k, hW, hA, hk2, hk1⟩ := HB.out.ex
  have HW := hid hW
  have HA := hid hA
  have HBel : Hid (Below w'.heap.size w' wr) := hid hW.bel
  by_cases hin : i < n
  rotate_left
  · as_aux_lemma =>
    have di : decide ((i : Int) < (n : Int)) = false := decide_eq_false (by omega)
    obtain ⟨h1, hh1⟩ : ∃ b, S1.L.hB = b := ⟨_, rfl⟩
    obtain ⟨h2, hh2⟩ : ∃ b, S2.L.hB = b := ⟨_, rfl⟩
    have HC : Hid (∀ wz, Below wr.heap.size wr wz → wz.cell? ⟨wB1, 0, none⟩ = some (.pointer (some ⟨h1, 0, none⟩)) ∧ wz.cell? ⟨wB2, 0, none⟩ = some (.pointer (some ⟨h2, 0, none⟩))) := hid (fun wz hz => by
      have q := hW.below hz
      have a1 := q.lw1.wm.cells.1
      have a2 := q.lw2.wm.cells.1
      rw [q.lw1.hv, hh1] at a1
      rw [q.lw2.hv, hh2] at a2
      exact ⟨a1, a2⟩)
    have HHp : Hid (∀ wz, Below wr.heap.size wr wz → Calls Tryd.prog 13 #[.pointer (some ⟨h1, 0, none⟩), .pointer (some ⟨h2, 0, none⟩)] wz fun e w' => e = .returned (.bool true) ∧ Below wr.heap.size wr w') := hid (fun wz hz => by
      have := (hW.below hz).heaps hA
      rw [hh1, hh2] at this
      exact this.mono (fun e w' ⟨t1, t2⟩ => ⟨t1, hz.trans (t2.mono hz.size)⟩))
    have HMd : Hid (∀ wz, Below wr.heap.size wr wz → Calls Tryd.prog 14 #[.pointer (some ⟨mB1, 0, none⟩), .pointer (some ⟨mB2, 0, none⟩)] wz fun e w' => e = .returned (.bool true) ∧ Below wr.heap.size wr w') := hid (fun wz hz => by
      have := (hW.below hz).models hA (by omega)
      exact this.mono (fun e w' ⟨t1, t2⟩ => ⟨t1, hz.trans (t2.mono hz.size)⟩))
    clear hW hA HB hh1 hh2
    go_upto_region 47 with fail
    refine wp_region_tree (fun wz => Below wr.heap.size wr wz) 15 [0, 1, 2, 3, 4, 5, 6, 7] (.one 8 (.one 9 (.lit [10, 11] (.one 12 (.one 13 (.one 14 .leaf)))))) rfl (by kernel_rfl) (by kernel_rfl) (fun d _ _ _ _ h => by cases d <;> exact h) (Drew.below ⟨1, rfl⟩ _) ?_
    apply Exists.intro
    refine ⟨?_, ?_⟩
    · intro W hW
      have q0 := fun x => (HC.out _ (hW x)).1
      have q1 := fun x => (HC.out _ (hW x)).2
      clear hW
      simp only [List.take, opsAt, List.drop, List.cons_append, List.nil_append]
      repeat (go_big_quiet_step (fail))
      exact rfl
    have HB1 : Hid (Below wr.heap.size wr wr.drew) := hid (Drew.below ⟨1, rfl⟩ _)
    generalize wr.drew = wd at HB1 ⊢
    simp only [wpTr, opsAt, List.take, List.drop, List.cons_append, List.nil_append]
    go_wp2_with fail
    refine (HHp.out _ HB1.out).mono ?_
    rintro e w5 ⟨rfl, hB5⟩
    have HB5 := hid hB5
    clear hB5 HB1
    go_wp2_with fail
    refine ⟨HB5.out, ?_⟩
    go_wp2_with fail
    refine ⟨HB5.out, ?_⟩
    apply Exists.intro
    refine ⟨?_, ?_⟩
    · intro W hW
      clear hW
      repeat (go_big_quiet_step (fail))
      exact rfl
    go_wp2_with fail
    refine (HMd.out _ HB5.out).mono ?_
    rintro e w6 ⟨rfl, hB6⟩
    have HB6 := hid hB6
    clear hB6 HB5
    go_wp2_with fail
    refine ⟨HB6.out, ?_⟩
    go_wp2_with fail
    refine ⟨HB6.out, ?_⟩
    go_wp2_with fail
    refine ⟨HB6.out, ?_⟩
    simp only [wpTr, QN]
    go_wp2
    go_ret
    exact ⟨rfl, HBel.out.trans (HB6.out.mono HBel.out.size)⟩
  have di : decide ((i : Int) < (n : Int)) = true := decide_eq_true (by omega)
  have hii : (i : Int) < (n : Int) := by omega
  obtain ⟨o, ho, hok, b, off, rfl, hb, c0, c1, c2, c3, c4⟩ := (HS.out.below HBel.out).at hin
  have HOk := hid hok
  clear ho hok hW hA HB
  obtain ⟨ob, hob⟩ : ∃ p, wr.heap.size = p := ⟨_, rfl⟩
  go_upto_region 8 with fail
  obtain ⟨w5, hw5⟩ : ∃ w2, wr.alloc (.cells #[.int .u8 (o.ac : Int), .int .u8 (o.k : Int), .int .u64 (o.a : Int), .int .u64 (o.b : Int), .int .u64 (o.c : Int)] 31) = w2 := ⟨_, rfl⟩
  have HW5 : Hid (W4 w' wB1 mB1 wB2 mB2 S1 M1 S2 M2 [(ob, 31, opC o)] w5) := hid (by
    rw [← hw5]
    have := HW.out.alloc (opC o) 31
    rw [hob] at this
    exact this)
  simp only [hw5]
  clear hw5 hob c0 c1 c2 c3 c4 HW
  go_wp2_with (refine wpList_load_blk rfl 31 _ rfl ob rfl (opC o) (HW5.out.bl (ob, 31, opC o) (by simp)).1 _ Tryd.underlying31 rfl I1.out ?_)
  refine (HW5.out.play1 (by omega) o HOk.out).mono ?_
  rintro e w6 ⟨z1, T1, rfl, hp1, hW6⟩
  have HP1 := hid hp1
  obtain ⟨rb, hrb⟩ : ∃ p, w6.heap.size = p := ⟨_, rfl⟩
  obtain ⟨w7, hw7⟩ : ∃ w5, w6.alloc (.cells (rzC (rzR 0)).toArray 36) = w5 := ⟨_, rfl⟩
  have HD7 : Hid (W4 w' wB1 mB1 wB2 mB2 T1 M1 S2 M2 [(rb, 36, rzC (rzR 0)), (ob, 31, opC o)] w7) := hid (by
    have := hW6.alloc (rzC (rzR 0)) 36
    rw [hrb, hw7] at this
    exact this)
  have hw7' : w6.alloc (.cells #[.int .u8 0, .int .u64 0, .int .u64 0, .int .u64 0, .int .u64 0, .int .u64 0, .int .i64 0, .int .i64 0] 36) = w7 := hw7
  have HL1 : Hid (LWs w' wB1 S1 w5 ∧ LWs w' wB2 S2 w5) := hid ⟨HW5.out.lw1, HW5.out.lw2⟩
  clear hw7 hp1 hW6 HW5
  go_upto_region 9 with (refine wpList_store_blk rfl 36 _ _ rfl rb rfl (rzC z1) rfl (HD7.out.bl (rb, 36, rzC (rzR 0)) (by simp)).1 rfl I0.out (rz_one _) ?_; intro w8 HBs HUs)
  have HD8 : Hid (W4 w' wB1 mB1 wB2 mB2 T1 M1 S2 M2 [(rb, 36, rzC z1), (ob, 31, opC o)] w8) := hid (HD7.out.set (i := 0) rfl HBs.out HUs.out)
  clear HD7 HBs HUs hw7' hrb
  have cz : w8.cell? ⟨rb, 0, none⟩ = some (.int .u8 (z1.c : Int)) := (HD8.out.bl (rb, 36, rzC z1) (by simp)).1.cell 0
  obtain ⟨room, hrm⟩ : ∃ r, decide (z1.c ≠ 8) = r := ⟨_, rfl⟩
  have hroom : ((z1.c : Int) != 8) = room := by
    rw [← hrm, Bool.eq_iff_iff]
    simp
    omega
  have HBM : Hid ((MBd M1 S1.k ∧ MIds M1) ∧ MBd M2 S2.k ∧ MIds M2) := hid (by
    obtain ⟨φ1, r1⟩ := HA.out.r1
    obtain ⟨φ2, r2⟩ := HA.out.r2
    exact ⟨⟨r1.mbd HL1.out.1 (by omega), r1.ids HL1.out.1.hi⟩, r2.mbd HL1.out.2 (by omega), r2.ids HL1.out.2.hi⟩)
  have HSt := hid (HD8.out.step1 HBM.out.1.1 (by omega) HBM.out.1.2 o HOk.out room)
  have Hrm := hid hrm
  clear hrm
  go_wp2_with (refine wpList_load_blk rfl 31 _ rfl ob rfl (opC o) (HD8.out.bl (ob, 31, opC o) (by simp)).1 _ Tryd.underlying31 rfl I1.out ?_)
  refine HSt.out.mono ?_
  rintro e w9 ⟨rfl, hD9⟩
  have HD9 := hid hD9
  obtain ⟨rz9, hrz9⟩ : ∃ x, (rzC (mDo M1 o room).2).toArray = x := ⟨_, rfl⟩
  rw [hrz9]
  clear hD9 HD8 HSt cz hroom hrz9
  go_upto_region 10 with fail
  refine wp_region_heavy (fun wy => Blk wy ob 31 (opC o)) 8 [0, 1, 2, 3] [4, 5, 6, 7] rfl (by kernel_rfl) (by kernel_rfl) (fun d _ _ _ _ h => by cases d <;> exact h) (((HD9.out.below (Drew.below ⟨1, rfl⟩ _)).bl (ob, 31, opC o) (by simp)).1) ?_
  apply Exists.intro
  refine ⟨?_, ?_⟩
  · intro W hW
    have s0 : ∀ x, (W x).cell? ⟨ob, 0, none⟩ = some (.int .u8 (o.ac : Int)) := fun x => (hW x).cell 0
    have s1 : ∀ x, (W x).cell? ⟨ob, 1, none⟩ = some (.int .u8 (o.k : Int)) := fun x => (hW x).cell 1
    have s2 : ∀ x, (W x).cell? ⟨ob, 2, none⟩ = some (.int .u64 (o.a : Int)) := fun x => (hW x).cell 2
    have s3 : ∀ x, (W x).cell? ⟨ob, 3, none⟩ = some (.int .u64 (o.b : Int)) := fun x => (hW x).cell 3
    have s4 : ∀ x, (W x).cell? ⟨ob, 4, none⟩ = some (.int .u64 (o.c : Int)) := fun x => (hW x).cell 4
    clear hW
    simp only [List.take, opsAt, List.drop, List.cons_append, List.nil_append]
    repeat (go_big_quiet_step (fail))
    exact rfl
  simp only [List.take, List.drop, opsAt, List.cons_append, List.nil_append, wpHv]
  have HD10 : Hid (W4 w' wB1 mB1 wB2 mB2 T1 (mCnt (mDo M1 o room).1 (mDo M1 o room).2) S2 M2 [(rb, 36, rzC z1), (ob, 31, opC o)] w9.drew) := hid (HD9.out.below (Drew.below ⟨1, rfl⟩ _))
  generalize w9.drew = w10 at HD10 ⊢
  clear HD9
  go_wp2_with fail
  refine (HD10.out.play2 (by omega) o HOk.out).mono ?_
  rintro e w11 ⟨z2, T2, rfl, hp2, hW11⟩
  simp only [show (rzC z2).toArray = #[.int .u8 (z2.c : Int), .int .u64 (z2.v : Int), .int .u64 (z2.a : Int), .int .u64 (z2.b : Int), .int .u64 (z2.d : Int), .int .u64 (z2.e : Int), .int .i64 (z2.h : Int), .int .i64 (z2.r : Int)] from rfl]
  obtain ⟨hzz1, hzz2, hApt⟩ := HA.out.both HL1.out.1 HL1.out.2 (by omega) (by omega) HOk.out HP1.out hp2
  rw [Hrm.out] at hzz1 hApt
  have hfd : ∀ w9 : World, (Instr.field 36 (.agg #[.int .u8 (z2.c : Int), .int .u64 (z2.v : Int), .int .u64 (z2.a : Int), .int .u64 (z2.b : Int), .int .u64 (z2.d : Int), .int .u64 (z2.e : Int), .int .i64 (z2.h : Int), .int .i64 (z2.r : Int)]) 0).run Tryd.prog w9 = .ok (.int .u8 (z2.c : Int)) w9 := fun w9 => by
    simp only [Instr.field, Sem.run_bind, run_underlying Tryd.underlying36, Result.andThen_ok]
    rfl
  have HW11 : Hid (W4 w' wB1 mB1 wB2 mB2 T1 (mCnt (mDo M1 o room).1 z1) T2 M2 [(rb, 36, rzC z1), (ob, 31, opC o)] w11) := hid (by rw [hzz1] at hW11; exact hW11)
  have HSt2 := hid (fun wy (hy : W4 w' wB1 mB1 wB2 mB2 T1 (mCnt (mDo M1 o room).1 z1) T2 M2 [(rb, 36, rzC z1), (ob, 31, opC o)] wy) => hy.step2 HBM.out.2.1 (by omega) HBM.out.2.2 o HOk.out (decide (z2.c ≠ 8)))
  rw [hzz2] at HSt2
  have hroom2 : ((z2.c : Int) != 8) = decide (z2.c ≠ 8) := by
    rw [Bool.eq_iff_iff]
    simp
    omega
  have HAp := hid hApt
  have Hk2 : Hid (T2.k = i + 1 ∧ T1.k ≤ 300 * i + 1) := hid ⟨by rw [hp2.k, hk2], by rw [HP1.out.k]; omega⟩
  generalize mCnt (mDo M2 o (decide (z2.c ≠ 8))).1 z2 = N2 at HSt2 HAp
  generalize mCnt (mDo M1 o room).1 z1 = N1 at HW11 HSt2 HAp
  generalize decide (z2.c ≠ 8) = room2 at HSt2 hroom2
  have HS11 := hid ((HW11.out.bl (ob, 31, opC o) (by simp)).1)
  clear hzz1 hzz2 hApt hp2 hW11 HD10 HBM HA HP1 HL1
  go_wp2_with fail
  refine ⟨HS11.out, ?_⟩
  go_wp2_with fail
  refine ⟨HS11.out, ?_⟩
  go_wp2_with fail
  refine ⟨HS11.out, ?_⟩
  go_wp2_with fail
  refine (HSt2.out _ HW11.out).mono ?_
  rintro e w12 ⟨rfl, hW12⟩
  have HW12 := hid hW12
  have HS12 := hid ((hW12.bl (ob, 31, opC o) (by simp)).1)
  obtain ⟨rz9, hrz9⟩ : ∃ x, (rzC z2).toArray = x := ⟨_, rfl⟩
  rw [hrz9]
  clear hW12 HW11 HSt2 HS11 hfd hroom2 hrz9
  go_wp2_with fail
  refine ⟨HS12.out, ?_⟩
  simp only [QN]
  have s2 : w12.cell? ⟨ob, 2, none⟩ = some (.int .u64 (o.a : Int)) := HS12.out.cell 2
  have s3 : w12.cell? ⟨ob, 3, none⟩ = some (.int .u64 (o.b : Int)) := HS12.out.cell 3
  have s4 : w12.cell? ⟨ob, 4, none⟩ = some (.int .u64 (o.c : Int)) := HS12.out.cell 4
  go_upto_region 12 with fail
  obtain ⟨tB, htB⟩ : ∃ p, w12.heap.size = p := ⟨_, rfl⟩
  obtain ⟨w13, hw13⟩ : ∃ x, w12.alloc (.cells #[.int .u64 (o.a : Int), .int .u64 (o.b : Int), .int .u64 (o.c : Int)] 39) = x := ⟨_, rfl⟩
  have HT13 : Hid (Below w12.heap.size w12 w13 ∧ w13.ownsRow w12.heap.size 39 1 (.slice (some ⟨tB, 0, none⟩) 3 3) 3 (aK .u64 [o.a, o.b, o.c])) := hid (by
    rw [← hw13]
    exact ⟨nbel _ _, own_new w12 (aK .u64 [o.a, o.b, o.c]) 39 (by show 3 ≤ maxLen; unfold maxLen; omega) htB⟩)
  simp only [htB, hw13]
  clear hw13 htB HS12 s2 s3 s4
  obtain ⟨gn, hgn⟩ : ∃ x, T1.G.length = x := ⟨_, rfl⟩
  obtain ⟨ga, gk, hgv⟩ := HW12.out.lw1.wm.al.shape
  rw [hgn] at hgv
  have gnb : (gn : Int) ≤ 100000000000 := by have := HW12.out.lw1.gl; have := Hk2.out.2; omega
  have HAl : Hid (∀ wz, Below w12.heap.size w12 wz → wz.cell? ⟨wB1, 6, none⟩ = some (.slice ga gn gk)) := hid (fun wz hz => by
    have q := (HW12.out.below hz).lw1
    have := q.wm.cells.2.2
    rw [q.hv, hgv] at this
    exact this)
  have HGt : Hid (∀ wz, Below w12.heap.size w12 wz → ∀ (j x : Nat), T1.G[j]? = some x → ∃ g, ga = some ⟨g, 0, none⟩ ∧ wz.cell? ⟨g, j, none⟩ = some (.int .u64 (x : Int))) := hid (fun wz hz j x hx => by
    have q := (HW12.out.below hz).lw1
    obtain ⟨g, k', e1, e2⟩ := q.wm.al.get hx
    rw [hgv] at e1
    injection e1 with t1
    exact ⟨g, t1, e2⟩)
  have Hgn := hid hgn
  have HOb : Hid (∀ wz, Below w12.heap.size w12 wz → wz.cell? ⟨ob, 2, none⟩ = some (.int .u64 (o.a : Int)) ∧ wz.cell? ⟨ob, 3, none⟩ = some (.int .u64 (o.b : Int)) ∧ wz.cell? ⟨ob, 4, none⟩ = some (.int .u64 (o.c : Int))) := hid (fun wz hz => by
    have q := ((HW12.out.below hz).bl (ob, 31, opC o) (by simp)).1
    exact ⟨q.cell 2, q.cell 3, q.cell 4⟩)
  have cA := HAl.out w13 HT13.out.1
  clear hgn hgv
  have HB12 : Hid (B2 w' wB1 mB1 wB2 mB2 T1 T2 N2 [(ob, 31, opC o)] (300 * i + 1) w12) := hid ⟨T1, N1, k, HW12.out.tail, HAp.out, Hk2.out.2, rfl, rfl⟩
  have HGb : Hid (∀ x ∈ T1.G, x < 18446744073709551616) := hid (fun x hx => by
    obtain ⟨m, g, s, rfl, h2, h3, h4⟩ := HW12.out.lw1.gv.old x hx
    have := HW12.out.lw1.xn.gen m
    have := Hk2.out.2
    exact hN_lt2 (by omega) h2 h3)
  clear HW12 HAp Hrm
  go_upto_if 70 with fail
  go_cut [10, 12] from 36 to 114 (fun v v2 wc => Hid (∃ tl : List Nat, Below w12.heap.size w12 wc ∧ wc.ownsRow w12.heap.size 39 1 v tl.length (aK .u64 tl) ∧ 0 < tl.length ∧ tl.length ≤ 10 ∧ ∀ x ∈ tl, x < 18446744073709551616))
  case first =>
    as_aux_lemma =>
    by_cases hg0 : 0 < gn
    · as_aux_lemma =>
      have dg : decide ((0 : Int) < (gn : Int)) = true := decide_eq_true (by omega)
      have dgn : decide (0 < gn) = true := decide_eq_true hg0
      have dz : ((gn : Int) == 0) = false := by simp; omega
      have dz2 : (gn : Int) ≠ 0 := by omega
      obtain ⟨ia, hia⟩ : ∃ x, o.a % gn = x := ⟨_, rfl⟩
      obtain ⟨ib, hib⟩ : ∃ x, o.b % gn = x := ⟨_, rfl⟩
      obtain ⟨ic, hic⟩ : ∃ x, o.c % 64 = x := ⟨_, rfl⟩
      obtain ⟨il, hil⟩ : ∃ x, gn - 1 = x := ⟨_, rfl⟩
      have ta : (o.a : Int).tmod (gn : Int) = (ia : Int) := by rw [Int.tmod_eq_emod_of_nonneg (by omega), ← hia]; exact (Int.natCast_emod _ _).symm
      have tb : (o.b : Int).tmod (gn : Int) = (ib : Int) := by rw [Int.tmod_eq_emod_of_nonneg (by omega), ← hib]; exact (Int.natCast_emod _ _).symm
      have tc : (o.c : Int).tmod 64 = (ic : Int) := by rw [Int.tmod_eq_emod_of_nonneg (by omega), ← hic]; omega
      have tl : (gn : Int) - 1 = (il : Int) := by omega
      have hia2 : ia < gn := by rw [← hia]; exact Nat.mod_lt _ hg0
      have hib2 : ib < gn := by rw [← hib]; exact Nat.mod_lt _ hg0
      have iia : (ia : Int) < (gn : Int) := by omega
      have iib : (ib : Int) < (gn : Int) := by omega
      have iil : (il : Int) < (gn : Int) := by omega
      have iic : (ic : Int) < 64 := by omega
      obtain ⟨xa, hxa⟩ : ∃ x, T1.G[ia]? = some x := ⟨_, List.getElem?_eq_getElem (by rw [Hgn.out]; exact hia2)⟩
      obtain ⟨xb, hxb⟩ : ∃ x, T1.G[ib]? = some x := ⟨_, List.getElem?_eq_getElem (by rw [Hgn.out]; exact hib2)⟩
      obtain ⟨xl, hxl⟩ : ∃ x, T1.G[il]? = some x := ⟨_, List.getElem?_eq_getElem (by rw [Hgn.out]; omega)⟩
      obtain ⟨gg, hgg, _⟩ := HGt.out w13 HT13.out.1 ia xa hxa
      subst hgg
      have HGx : Hid (∀ wz, Below w12.heap.size w12 wz → wz.cell? ⟨gg, ia, none⟩ = some (.int .u64 (xa : Int)) ∧ wz.cell? ⟨gg, ib, none⟩ = some (.int .u64 (xb : Int)) ∧ wz.cell? ⟨gg, il, none⟩ = some (.int .u64 (xl : Int))) := hid (fun wz hz => by
        obtain ⟨g1, e1, e2⟩ := HGt.out wz hz ia xa hxa
        obtain ⟨g2, e3, e4⟩ := HGt.out wz hz ib xb hxb
        obtain ⟨g3, e5, e6⟩ := HGt.out wz hz il xl hxl
        cases e1
        cases e3
        cases e5
        exact ⟨e2, e4, e6⟩)
      have HXb : Hid (xa < 18446744073709551616 ∧ xb < 18446744073709551616 ∧ xl < 18446744073709551616) := hid ⟨HGb.out xa (List.mem_of_getElem? hxa), HGb.out xb (List.mem_of_getElem? hxb), HGb.out xl (List.mem_of_getElem? hxl)⟩
      clear hia hib hic hil hxa hxb hxl
      go_upto_region 14 with fail
      refine wp_region_heavy (fun wy => Below w12.heap.size w12 wy) 11 (List.range 11) [] rfl (by kernel_rfl) (by kernel_rfl) (fun d _ _ _ _ h => by cases d <;> exact h) (HT13.out.1.trans (Drew.below ⟨1, rfl⟩ _)) ?_
      apply Exists.intro
      refine ⟨?_, ?_⟩
      · intro W hW
        have q0 := fun x => HAl.out _ (hW x)
        have q1 := fun x => (HOb.out _ (hW x)).1
        have q2 := fun x => (HGx.out _ (hW x)).1
        clear hW
        simp only [List.take, opsAt, List.drop, List.cons_append, List.nil_append, List.range, List.range.loop]
        repeat (go_big_quiet_step (fail))
        exact rfl
      simp only [List.take, List.drop, opsAt, List.cons_append, List.nil_append, wpHv, QN]
      have HB14 : Hid (Below w13.heap.size w13 w13.drew) := hid (Drew.below ⟨1, rfl⟩ _)
      generalize w13.drew = w14 at HB14 ⊢
      go_upto_region 15 with fail
      refine wp_region_heavy (fun wy => Below w12.heap.size w12 wy) 34 (List.range 32) [32, 33] rfl (by kernel_rfl) (by kernel_rfl) (fun d _ _ _ _ h => by cases d <;> exact h) ((HT13.out.1.trans (HB14.out.mono HT13.out.1.size)).trans (Drew.below ⟨1, rfl⟩ _)) ?_
      apply Exists.intro
      refine ⟨?_, ?_⟩
      · intro W hW
        have q0 := fun x => HAl.out _ (hW x)
        have q1 := fun x => (HOb.out _ (hW x)).2.1
        have q2 := fun x => (HOb.out _ (hW x)).2.2
        have q3 := fun x => (HGx.out _ (hW x)).2.1
        have q4 := fun x => (HGx.out _ (hW x)).2.2
        clear hW
        simp only [List.take, opsAt, List.drop, List.cons_append, List.nil_append, List.range, List.range.loop]
        repeat (go_big_quiet_step (fail))
        exact rfl
      simp only [List.take, List.drop, opsAt, List.cons_append, List.nil_append, wpHv]
      have HB15 : Hid (Below w13.heap.size w13 w14.drew) := hid (HB14.out.trans (Drew.below ⟨1, rfl⟩ _))
      generalize w14.drew = w15 at HB15 ⊢
      obtain ⟨t3, ht3, tb3⟩ := bitsN .xor (xa : Int) (IntKind.u64.wrap (2 ^ ic))
      obtain ⟨t4, ht4, tb4⟩ := wrapN ((xa : Int) + 1)
      obtain ⟨t5, ht5, tb5⟩ := wrapN ((xa : Int) + 256)
      obtain ⟨t6, ht6, tb6⟩ := wrapN ((xa : Int) + 65536)
      rw [ht3, ht4, ht5, ht6]
      have HT15 : Hid (Below w12.heap.size w12 w15 ∧ w15.ownsRow w12.heap.size 39 1 (.slice (some ⟨tB, 0, none⟩) 3 3) 3 (aK .u64 [o.a, o.b, o.c])) := hid ⟨HT13.out.1.trans (HB15.out.mono HT13.out.1.size), own_belowS HT13.out.2 HB15.out⟩
      have HTb : Hid (∀ x ∈ [o.a, o.b, o.c, xa, xb, xl, t3, t4, t5, t6], x < 18446744073709551616) := hid (by
        have := HOk.out
        simp only [List.mem_cons, List.not_mem_nil, or_false]
        rintro x (rfl | rfl | rfl | rfl | rfl | rfl | rfl | rfl | rfl | rfl)
        · exact this.a
        · exact this.b
        · exact this.c
        · exact HXb.out.1
        · exact HXb.out.2.1
        · exact HXb.out.2.2
        · exact tb3
        · exact tb4
        · exact tb5
        · exact tb6)
      clear ht3 ht4 ht5 ht6 tb3 tb4 tb5 tb6 ta tb tc tl iia iib iil iic dz dz2 dg dgn cA HGx HXb HT13 HB14 HB15 HAl HGt HOb HGb
      refine wpList_bs7 rfl _ _ _ _ _ _ _ rfl xa xb xl t3 t4 t5 t6 (by simp [Act.eval]) (by simp [Act.eval]) (by simp [Act.eval]) (by simp [Act.eval]) (by simp [Act.eval]) (by simp [Act.eval]) (by simp [Act.eval]) ?_
      intro sg w16 hsg hw16
      have HT16 : Hid (Below w12.heap.size w12 w16 ∧ w16.ownsRow w12.heap.size 39 1 (.slice (some ⟨tB, 0, none⟩) 3 3) 3 (aK .u64 [o.a, o.b, o.c]) ∧ Blk w16 sg 39 (aK .u64 [xa, xb, xl, t3, t4, t5, t6])) := hid (by
        have hn : Below w15.heap.size w15 w16 := by rw [← hw16]; exact nbel _ _
        exact ⟨HT15.out.1.trans (hn.mono HT15.out.1.size), own_belowS HT15.out.2 hn, by rw [← hw16, ← hsg]; exact Blk.new w15 _ _⟩)
      clear hw16 hsg HT15
      refine ⟨HT16.out.1, ?_⟩
      simp only [Act.put, List.setIfInBounds_toArray, List.set_cons_succ, List.set_cons_zero]
      refine wpList_app_tr rfl (.tmp 81) (.tmp 113) rfl rfl HT16.out.1 HT16.out.2.1 [xa, xb, xl, t3, t4, t5, t6] (by simp) sg 7 rfl rfl HT16.out.2.2 ?_
      intro v9 w17 hb17 hw17
      have HT17 := hid (And.intro hb17 hw17)
      clear hb17 hw17 HT16
      refine ⟨HT17.out.1, ?_⟩
      simp only [Act.put, List.setIfInBounds_toArray, List.set_cons_succ, List.set_cons_zero, QN]
      go_wp2_with fail
      go_meet
      exact hid ⟨_, HT17.out.1, HT17.out.2, by simp, by simp, HTb.out⟩
    · as_aux_lemma =>
      have dg : decide ((0 : Int) < (gn : Int)) = false := decide_eq_false (by omega)
      have dgn : decide (0 < gn) = false := decide_eq_false hg0
      go_wp2_with fail
      go_meet
      exact hid ⟨[o.a, o.b, o.c], HT13.out.1, HT13.out.2, by simp, by simp, by
        have := HOk.out
        simp only [List.mem_cons, List.not_mem_nil, or_false]
        rintro x (rfl | rfl | rfl)
        · exact this.a
        · exact this.b
        · exact this.c⟩
  case rest =>
  have HTr := hcut
  clear hcut
  obtain ⟨tl, hb, hto, hn0, hn10, htx⟩ := HTr.out
  obtain ⟨tg, tcap, tcs, rfl, hB, hcs⟩ := tr_lay HB12.out hb hto hn0
  have HBt := hid hB
  have Hcs := hid hcs
  have Htx := hid htx
  obtain ⟨tn, htn⟩ : ∃ x, tl.length = x := ⟨_, rfl⟩
  simp only [htn]
  rw [htn] at hn10
  have Htn := hid htn
  have hin2 : i < 65536 := by omega
  clear hb hto hn0 htx hB hcs htn HTr HB12 HT13 HAl HGt HOb HGb cA Hgn
  go_wp2_with fail
  go_loopw [117] (fun v wr => ∃ j : Nat, j ≤ tn ∧ v = .int .i64 (j : Int) ∧ Hid (B2 w' wB1 mB1 wB2 mB2 T1 T2 N2 [(tg, 39, tcs), (ob, 31, opC o)] (300 * i + 1 + 24 * j) wr)) (fun v _ => tn - (intOf v).toNat)
  case atStart => exact ⟨0, by omega, rfl, HBt⟩
  case round =>
  clear HBt
  obtain ⟨j, hj, rfl, HBj⟩ := hrel
  by_cases hjn : j < tn
  rotate_left
  · as_aux_lemma =>
    have dj : decide ((j : Int) < (tn : Int)) = false := decide_eq_false (by omega)
    have HTb := hid (HBj.out.tables (by omega) (by have := Hk2.out.1; omega))
    have HF : Hid (∀ wy, Below wr.heap.size wr wy → B1 w' wB1 mB1 wB2 mB2 (i + 1) wy) := hid (fun wy hy => (HBj.out.below hy).round Hk2.out.1 (by omega))
    have dj2 : decide (j < tn) = false := decide_eq_false hjn
    clear HBj
    go_wp2_with fail
    refine HTb.out.mono ?_
    rintro e w20 ⟨rfl, hb20⟩
    have HF2 := hid (HF.out w20 hb20)
    clear HTb HF hb20
    go_wp2
    exact ⟨⟨i + 1, by omega, by go_num, HF2⟩, by simp [intOf]; omega⟩
  have dj : decide ((j : Int) < (tn : Int)) = true := decide_eq_true (by omega)
  have ij : (j : Int) < (tn : Int) := by omega
  obtain ⟨h, hh⟩ : ∃ h, tl[j]? = some h := ⟨_, List.getElem?_eq_getElem (by rw [Htn.out]; exact hjn)⟩
  have hh64 : h < 18446744073709551616 := Htx.out h (List.mem_of_getElem? hh)
  have ch : wr.cell? ⟨tg, j, none⟩ = some (.int .u64 (h : Int)) := by
    rw [(HBj.out.bl (tg, 39, tcs) (by simp)).cell j]
    exact Hcs.out j h hh
  clear hh
  by_cases h255 : h ≤ 255
  · as_aux_lemma =>
    have dh : decide ((h : Int) ≤ 255) = true := decide_eq_true (by omega)
    have HF : Hid (B2 w' wB1 mB1 wB2 mB2 T1 T2 N2 [(tg, 39, tcs), (ob, 31, opC o)] (300 * i + 1 + 24 * (j + 1)) wr) := hid (HBj.out.mono (by omega))
    clear HBj h255
    go_wp2
    exact ⟨⟨j + 1, by omega, by go_num, HF⟩, by simp [intOf]; omega⟩
  have dh : decide ((h : Int) ≤ 255) = false := decide_eq_false (by omega)
  go_wp2_with fail
  go_loopw [15] (fun v wr => ∃ mu : Nat, mu ≤ 4 ∧ v = .int .i64 (mu : Int) ∧ Hid (B2 w' wB1 mB1 wB2 mB2 T1 T2 N2 [(tg, 39, tcs), (ob, 31, opC o)] (300 * i + 1 + 24 * j + 6 * mu) wr)) (fun v _ => 4 - (intOf v).toNat)
  case atStart => exact ⟨0, by omega, rfl, HBj⟩
  case round =>
  clear HBj ch dj ij dh
  obtain ⟨mu, hmu, rfl, HBm⟩ := hrel
  by_cases hm4 : mu < 4
  rotate_left
  · as_aux_lemma =>
    have dm : decide ((mu : Int) < 4) = false := decide_eq_false (by omega)
    have HF : Hid (B2 w' wB1 mB1 wB2 mB2 T1 T2 N2 [(tg, 39, tcs), (ob, 31, opC o)] (300 * i + 1 + 24 * (j + 1)) wr) := hid (HBm.out.mono (by omega))
    clear HBm hm4
    go_wp2
    exact ⟨⟨j + 1, by omega, by go_num, HF⟩, by simp [intOf]; omega⟩
  have dm : decide ((mu : Int) < 4) = true := decide_eq_true (by omega)
  have im : (mu : Int) < 4 := by omega
  obtain ⟨lm, clm, hlk⟩ := HBm.out.live hm4 h
  by_cases hlv : h ∈ lvK T1.X mu
  · as_aux_lemma =>
    rw [decide_eq_true hlv] at hlk
    have HF : Hid (B2 w' wB1 mB1 wB2 mB2 T1 T2 N2 [(tg, 39, tcs), (ob, 31, opC o)] (300 * i + 1 + 24 * j + 6 * (mu + 1)) wr) := hid (HBm.out.mono (by omega))
    clear HBm hlv
    go_wp2
    exact ⟨⟨mu + 1, by omega, by go_num, HF⟩, by simp [intOf]; omega⟩
  rw [decide_eq_false hlv] at hlk
  have Hlv := hid hlv
  have ck := (HK.out.below HBm.out.bel).c
  have hmk := make_pr
  clear hlv
  go_upto_region 25 with fail
  obtain ⟨pz, hpz⟩ : ∃ x, wr.heap.size = x := ⟨_, rfl⟩
  obtain ⟨w21, hw21⟩ : ∃ x, wr.alloc (.cells prZ 31) = x := ⟨_, rfl⟩
  have HP0 : Hid (PB w' wB1 mB1 wB2 mB2 T1 T2 N2 [(tg, 39, tcs), (ob, 31, opC o)] (300 * i + 1 + 24 * j + 6 * mu) (.slice (some ⟨pz, 0, none⟩) 0 6) [] w21) := hid (by rw [← hw21, ← hpz]; exact PB.new HBm.out)
  simp only [hpz, hw21]
  clear hpz hw21 hmk hlk clm HBm ck
  have ck := (HK.out.below HP0.out.b2.bel).c
  go_wp2_with fail
  go_loopw [16, 141] (fun v v2 wr => ∃ q : Nat, q ≤ 5 ∧ v2 = .int .i64 (q : Int) ∧ Hid (∃ P : List OpP, P.length = q ∧ PB w' wB1 mB1 wB2 mB2 T1 T2 N2 [(tg, 39, tcs), (ob, 31, opC o)] (300 * i + 1 + 24 * j + 6 * mu) v P wr)) (fun _ v2 _ => 5 - (intOf v2).toNat)
  case atStart => exact ⟨0, by omega, rfl, hid ⟨[], rfl, HP0.out⟩⟩
  case round =>
  clear HP0 ck
  obtain ⟨q, hq, rfl, HPq⟩ := hrel
  by_cases hq5 : q < 5
  · have dq : decide ((q : Int) < 5) = true := decide_eq_true (by omega)
    have iq : (q : Int) < 5 := by omega
    obtain ⟨P, hPl, hPB⟩ := HPq.out
    obtain ⟨kd, hkd⟩ : ∃ x, q + 1 = x := ⟨_, rfl⟩
    have cq := (HK.out.below hPB.b2.bel).e q hq5
    rw [hkd] at cq
    have cb : wr.cell? ⟨ob, 3, none⟩ = some (.int .u64 (o.b : Int)) := (hPB.b2.bl (ob, 31, opC o) (by simp)).cell 3
    have cc : wr.cell? ⟨ob, 4, none⟩ = some (.int .u64 (o.c : Int)) := (hPB.b2.bl (ob, 31, opC o) (by simp)).cell 4
    obtain ⟨sg, hsg⟩ : ∃ x, wr.heap.size = x := ⟨_, rfl⟩
    obtain ⟨wv, hwv⟩ : ∃ x, wr.alloc (.cells (opC ⟨mu, kd, h, o.b, o.c⟩).toArray 31) = x := ⟨_, rfl⟩
    have hwv' : wr.alloc (.cells #[.int .u8 (mu : Int), .int .u8 (kd : Int), .int .u64 (h : Int), .int .u64 (o.b : Int), .int .u64 (o.c : Int)] 31) = wv := hwv
    have HPw : Hid (Blk wv sg 31 (opC ⟨mu, kd, h, o.b, o.c⟩)) := hid (by rw [← hwv, ← hsg]; exact Blk.new wr _ _)
    have HPr : Hid (PrB T1 ⟨mu, kd, h, o.b, o.c⟩) := hid ⟨⟨by dsimp only; omega, by dsimp only; omega, hh64, HOk.out.b, HOk.out.c⟩, hm4, .inl ⟨by dsimp only; omega, by dsimp only; omega, by dsimp only; omega, Hlv.out⟩⟩
    have HPv := hid (hPB.below (w' := wv) (by rw [← hwv]; exact nbel _ _))
    have HPl : Hid (P.length = q) := hid hPl
    have w8 : IntKind.u8.wrap (mu : Int) = (mu : Int) := by rw [IntKind.wrap_u8]; omega
    clear hwv hPB hPl HPq hkd
    go_wp2_with (at_builtin; refine wpList_app_pb rfl (.tmp 145) (.tmp 155) rfl rfl HPv.out ⟨mu, kd, h, o.b, o.c⟩ (by rw [HPl.out]; omega) sg rfl HPw.out HPr.out ?_; intro v9 w9 hp9; have HP9 := hid hp9; clear hp9)
    clear w8
    have HQ : Hid (∃ P : List OpP, P.length = q + 1 ∧ PB w' wB1 mB1 wB2 mB2 T1 T2 N2 [(tg, 39, tcs), (ob, 31, opC o)] (300 * i + 1 + 24 * j + 6 * mu) v9 P w9) := hid (PB.snoc HPl.out HP9.out)
    clear HP9 HPl HPw HPr HPv hwv' hsg
    go_wp2
    exact ⟨⟨q + 1, by omega, by go_num, HQ⟩, by simp [intOf]; omega⟩
  have dq : decide ((q : Int) < 5) = false := decide_eq_false (by omega)
  obtain ⟨P5, hP5, hPB⟩ := HPq.out
  have HPB := hid hPB
  have HHo := hid (hPB.b2.holder (by omega) hm4)
  have HPl : Hid (P5.length = 5) := hid (by omega)
  clear hPB HPq hP5 hq hq5
  go_wp2_with fail
  refine HHo.out.mono ?_
  rintro e w22 ⟨best, bb, rfl, hb22, hgood⟩
  have HPc := hid (HPB.out.below hb22)
  have Hgd := hid hgood
  clear hb22 hgood HPB HHo dq
  go_upto_if 164 with fail
  go_cut [16] from 123 to 172 (fun v wc => Hid (∃ P : List OpP, 0 < P.length ∧ P.length ≤ 6 ∧ PB w' wB1 mB1 wB2 mB2 T1 T2 N2 [(tg, 39, tcs), (ob, 31, opC o)] (300 * i + 1 + 24 * j + 6 * mu) v P wc))
  case first =>
    cases bb with
    | false =>
      go_wp2_with fail
      go_meet
      exact hid ⟨P5, by rw [HPl.out]; omega, by rw [HPl.out]; omega, HPc.out⟩
    | true =>
      obtain ⟨hg1, hg2⟩ := Hgd.out rfl
      obtain ⟨sg, hsg⟩ : ∃ x, w22.heap.size = x := ⟨_, rfl⟩
      obtain ⟨wv, hwv⟩ : ∃ x, w22.alloc (.cells (opC ⟨mu, 2, best, 0, h⟩).toArray 31) = x := ⟨_, rfl⟩
      have hwv' : w22.alloc (.cells #[.int .u8 (mu : Int), .int .u8 2, .int .u64 (best : Int), .int .u64 0, .int .u64 (h : Int)] 31) = wv := hwv
      have HPw : Hid (Blk wv sg 31 (opC ⟨mu, 2, best, 0, h⟩)) := hid (by rw [← hwv, ← hsg]; exact Blk.new w22 _ _)
      have HPr : Hid (PrB T1 ⟨mu, 2, best, 0, h⟩) := hid ⟨⟨by dsimp only; omega, by dsimp only; omega, hg2, by dsimp only; omega, hh64⟩, hm4, .inr ⟨rfl, rfl, by dsimp only; omega, Hlv.out, hg1⟩⟩
      have HPv := hid (HPc.out.below (w' := wv) (by rw [← hwv]; exact nbel _ _))
      have w8 : IntKind.u8.wrap (mu : Int) = (mu : Int) := by rw [IntKind.wrap_u8]; omega
      clear hwv HPc Hgd hg1 hg2
      go_wp2_with (at_builtin; refine wpList_app_pb rfl (.tmp 165) (.tmp 171) rfl rfl HPv.out ⟨mu, 2, best, 0, h⟩ (by rw [HPl.out]; omega) sg rfl HPw.out HPr.out ?_; intro v9 w9 hp9; have HP9 := hid hp9; clear hp9)
      clear w8
      have HQ : Hid (∃ P : List OpP, 0 < P.length ∧ P.length ≤ 6 ∧ PB w' wB1 mB1 wB2 mB2 T1 T2 N2 [(tg, 39, tcs), (ob, 31, opC o)] (300 * i + 1 + 24 * j + 6 * mu) v9 P w9) := hid (PB.snoc6 HPl.out HP9.out)
      clear HP9 HPl HPw HPr HPv hwv' hsg
      go_wp2_with fail
      go_meet
      exact HQ
  case rest =>
  have HPr := hcut
  clear hcut
  obtain ⟨P, hp0, hp6, hPB⟩ := HPr.out
  obtain ⟨pg, pcap, pcs, rfl, hBp, hpcs⟩ := hPB.lay hp0
  have HBp := hid hBp
  have Hpcs := hid hpcs
  have HPa := hid hPB.all
  obtain ⟨pn, hpn⟩ : ∃ x, P.length = x := ⟨_, rfl⟩
  simp only [hpn]
  rw [hpn] at hp6
  have Hpn := hid hpn
  clear hp0 hPB hBp hpcs hpn HPr HPc Hgd HPl
  go_wp2_with fail
  go_loopw [175] (fun v wr => ∃ q : Nat, q ≤ pn ∧ v = .int .i64 (q : Int) ∧ Hid (B2 w' wB1 mB1 wB2 mB2 T1 T2 N2 [(pg, 31, pcs), (tg, 39, tcs), (ob, 31, opC o)] (300 * i + 1 + 24 * j + 6 * mu + q) wr)) (fun v _ => pn - (intOf v).toNat)
  case atStart => exact ⟨0, by omega, rfl, HBp⟩
  case round =>
  clear HBp
  obtain ⟨q, hq, rfl, HBq⟩ := hrel
  by_cases hqn : q < pn
  rotate_left
  · have dq : decide ((q : Int) < (pn : Int)) = false := decide_eq_false (by omega)
    obtain ⟨xB, cx, hadr⟩ := HBq.out.address (by omega)
    have HAd := hid (hadr hm4 (by omega : 255 < h) hh64 Hlv.out)
    have HF : Hid (B2 w' wB1 mB1 wB2 mB2 T1 T2 N2 [(tg, 39, tcs), (ob, 31, opC o)] (300 * i + 1 + 24 * j + 6 * (mu + 1)) wr) := hid (HBq.out.tail.mono (by omega))
    have dq2 : decide (q < pn) = false := decide_eq_false hqn
    clear HBq hadr
    go_wp2_with fail
    refine HAd.out.mono ?_
    rintro e w23 ⟨rfl, rfl⟩
    clear HAd cx
    go_wp2
    exact ⟨⟨mu + 1, by omega, by go_num, HF⟩, by simp [intOf]; omega⟩
  have dq : decide ((q : Int) < (pn : Int)) = true := decide_eq_true (by omega)
  have iq : (q : Int) < (pn : Int) := by omega
  obtain ⟨p, hp⟩ : ∃ p, P[q]? = some p := ⟨_, List.getElem?_eq_getElem (by rw [Hpn.out]; exact hqn)⟩
  have HPp := hid (HPa.out p (List.mem_of_getElem? hp))
  obtain ⟨c0, c1, c2, c3, c4⟩ := pr_cells (HBq.out.bl (pg, 31, pcs) (by simp)) Hpcs.out hp
  clear hp
  obtain ⟨pb, hpb⟩ : ∃ x, wr.heap.size = x := ⟨_, rfl⟩
  go_upto_region 36 with fail
  obtain ⟨w30, hw30⟩ : ∃ x, wr.alloc (.cells #[.int .u8 (p.ac : Int), .int .u8 (p.k : Int), .int .u64 (p.a : Int), .int .u64 (p.b : Int), .int .u64 (p.c : Int)] 31) = x := ⟨_, rfl⟩
  have HB30 : Hid (B2 w' wB1 mB1 wB2 mB2 T1 T2 N2 [(pb, 31, opC p), (pg, 31, pcs), (tg, 39, tcs), (ob, 31, opC o)] (300 * i + 1 + 24 * j + 6 * mu + q) w30) := hid (by
    rw [← hw30]
    have := HBq.out.alloc (opC p) 31
    rw [hpb] at this
    exact this)
  simp only [hw30]
  clear hw30 hpb c0 c1 c2 c3 c4 HBq
  obtain ⟨qb, hqb⟩ : ∃ x, w30.heap.size = x := ⟨_, rfl⟩
  obtain ⟨w31, hw31⟩ : ∃ x, w30.alloc (.cells (rzC (rzR 0)).toArray 36) = x := ⟨_, rfl⟩
  have hw31' : w30.alloc (.cells #[.int .u8 0, .int .u64 0, .int .u64 0, .int .u64 0, .int .u64 0, .int .u64 0, .int .i64 0, .int .i64 0] 36) = w31 := hw31
  have HB31 : Hid (B2 w' wB1 mB1 wB2 mB2 T1 T2 N2 [(qb, 36, rzC (rzR 0)), (pb, 31, opC p), (pg, 31, pcs), (tg, 39, tcs), (ob, 31, opC o)] (300 * i + 1 + 24 * j + 6 * mu + q) w31) := hid (by
    have := HB30.out.alloc (rzC (rzR 0)) 36
    rw [hqb, hw31] at this
    exact this)
  clear hw31 HB30
  go_upto_region 37 with (refine wpList_store_blk rfl 36 _ _ rfl qb rfl (rzC (rzR 3)) rfl (HB31.out.bl (qb, 36, rzC (rzR 0)) (by simp)) rfl I0.out (rz_one _) ?_; intro w32 HBs HUs)
  have HB32 : Hid (B2 w' wB1 mB1 wB2 mB2 T1 T2 N2 [(qb, 36, rzC (rzR 3)), (pb, 31, opC p), (pg, 31, pcs), (tg, 39, tcs), (ob, 31, opC o)] (300 * i + 1 + 24 * j + 6 * mu + q) w32) := hid (HB31.out.set (i := 0) rfl HBs.out HUs.out)
  clear HB31 HBs HUs hw31' hqb
  go_frame
  obtain ⟨z3, hz3⟩ : ∃ z, rzR 3 = z := ⟨_, rfl⟩
  have HPl : Hid (∀ wy, B2 w' wB1 mB1 wB2 mB2 T1 T2 N2 [(qb, 36, rzC z3), (pb, 31, opC p), (pg, 31, pcs), (tg, 39, tcs), (ob, 31, opC o)] (300 * i + 1 + 24 * j + 6 * mu + q) wy → Calls Tryd.prog 8 #[.pointer (some ⟨wB1, 0, none⟩), .agg (opC p).toArray] wy fun e w5 => e = .returned (.agg #[.int .u8 (z3.c : Int), .int .u64 (z3.v : Int), .int .u64 (z3.a : Int), .int .u64 (z3.b : Int), .int .u64 (z3.d : Int), .int .u64 (z3.e : Int), .int .i64 (z3.h : Int), .int .i64 (z3.r : Int)]) ∧ B2h w' wB1 mB1 wB2 mB2 T1 T2 N2 [(qb, 36, rzC z3), (pb, 31, opC p), (pg, 31, pcs), (tg, 39, tcs), (ob, 31, opC o)] (300 * i + 1 + 24 * j + 6 * mu + q) p w5) := hid (fun wy hy => by
    have := hy.play (by omega) HPp.out
    rw [hz3] at this
    exact this)
  have HSp : Hid (∀ wy, B2h w' wB1 mB1 wB2 mB2 T1 T2 N2 [(qb, 36, rzC z3), (pb, 31, opC p), (pg, 31, pcs), (tg, 39, tcs), (ob, 31, opC o)] (300 * i + 1 + 24 * j + 6 * mu + q) p wy → Calls Tryd.prog 9 #[.pointer (some ⟨mB1, 0, none⟩), .agg (opC p).toArray, .bool true] wy fun e w5 => e = .returned (.agg #[.int .u8 (z3.c : Int), .int .u64 (z3.v : Int), .int .u64 (z3.a : Int), .int .u64 (z3.b : Int), .int .u64 (z3.d : Int), .int .u64 (z3.e : Int), .int .i64 (z3.h : Int), .int .i64 (z3.r : Int)]) ∧ B2 w' wB1 mB1 wB2 mB2 T1 T2 N2 [(qb, 36, rzC z3), (pb, 31, opC p), (pg, 31, pcs), (tg, 39, tcs), (ob, 31, opC o)] (300 * i + 1 + 24 * j + 6 * mu + q + 1) w5) := hid (fun wy hy => by
    have := hy.step HPp.out
    rw [hz3] at this
    exact this)
  rw [hz3] at HB32
  clear hz3
  have hne : ∀ w9 : World, (binOp .neq 36 (.agg #[.int .u8 (z3.c : Int), .int .u64 (z3.v : Int), .int .u64 (z3.a : Int), .int .u64 (z3.b : Int), .int .u64 (z3.d : Int), .int .u64 (z3.e : Int), .int .i64 (z3.h : Int), .int .i64 (z3.r : Int)]) (.agg #[.int .u8 (z3.c : Int), .int .u64 (z3.v : Int), .int .u64 (z3.a : Int), .int .u64 (z3.b : Int), .int .u64 (z3.d : Int), .int .u64 (z3.e : Int), .int .i64 (z3.h : Int), .int .i64 (z3.r : Int)])).run Tryd.prog w9 = .ok (.bool false) w9 := fun w9 => neq_rz z3 w9
  refine wp_region_tree (fun wy => Blk wy pb 31 (opC p) ∧ Blk wy qb 36 (rzC z3)) 12 [0, 1, 3] (.one 2 (.one 4 (.one 5 (.lit [6, 7, 9] (.one 8 (.one 10 (.one 11 .leaf))))))) rfl (by kernel_rfl) (by kernel_rfl) (fun d _ _ _ _ h => by cases d <;> exact h) ⟨((HB32.out.below (Drew.below ⟨1, rfl⟩ _)).bl (pb, 31, opC p) (by simp)), ((HB32.out.below (Drew.below ⟨1, rfl⟩ _)).bl (qb, 36, rzC z3) (by simp))⟩ ?_
  apply Exists.intro
  refine ⟨?_, ?_⟩
  · intro W hW
    have s0 : ∀ x, (W x).cell? ⟨pb, 0, none⟩ = some (.int .u8 (p.ac : Int)) := fun x => (hW x).1.cell 0
    have s1 : ∀ x, (W x).cell? ⟨pb, 1, none⟩ = some (.int .u8 (p.k : Int)) := fun x => (hW x).1.cell 1
    have s2 : ∀ x, (W x).cell? ⟨pb, 2, none⟩ = some (.int .u64 (p.a : Int)) := fun x => (hW x).1.cell 2
    have s3 : ∀ x, (W x).cell? ⟨pb, 3, none⟩ = some (.int .u64 (p.b : Int)) := fun x => (hW x).1.cell 3
    have s4 : ∀ x, (W x).cell? ⟨pb, 4, none⟩ = some (.int .u64 (p.c : Int)) := fun x => (hW x).1.cell 4
    have r0 : ∀ x, (W x).cell? ⟨qb, 0, none⟩ = some (.int .u8 (z3.c : Int)) := fun x => (hW x).2.cell 0
    have r1 : ∀ x, (W x).cell? ⟨qb, 1, none⟩ = some (.int .u64 (z3.v : Int)) := fun x => (hW x).2.cell 1
    have r2 : ∀ x, (W x).cell? ⟨qb, 2, none⟩ = some (.int .u64 (z3.a : Int)) := fun x => (hW x).2.cell 2
    have r3 : ∀ x, (W x).cell? ⟨qb, 3, none⟩ = some (.int .u64 (z3.b : Int)) := fun x => (hW x).2.cell 3
    have r4 : ∀ x, (W x).cell? ⟨qb, 4, none⟩ = some (.int .u64 (z3.d : Int)) := fun x => (hW x).2.cell 4
    have r5 : ∀ x, (W x).cell? ⟨qb, 5, none⟩ = some (.int .u64 (z3.e : Int)) := fun x => (hW x).2.cell 5
    have r6 : ∀ x, (W x).cell? ⟨qb, 6, none⟩ = some (.int .i64 (z3.h : Int)) := fun x => (hW x).2.cell 6
    have r7 : ∀ x, (W x).cell? ⟨qb, 7, none⟩ = some (.int .i64 (z3.r : Int)) := fun x => (hW x).2.cell 7
    clear hW
    simp only [List.take, opsAt, List.drop, List.cons_append, List.nil_append]
    repeat (go_big_quiet_step (fail))
    exact rfl
  have HB33 : Hid (B2 w' wB1 mB1 wB2 mB2 T1 T2 N2 [(qb, 36, rzC z3), (pb, 31, opC p), (pg, 31, pcs), (tg, 39, tcs), (ob, 31, opC o)] (300 * i + 1 + 24 * j + 6 * mu + q) w32.drew) := hid (HB32.out.below (Drew.below ⟨1, rfl⟩ _))
  generalize w32.drew = w33 at HB33 ⊢
  clear HB32
  simp only [wpTr, opsAt, List.take, List.drop, List.cons_append, List.nil_append]
  go_wp2_with fail
  refine (HPl.out _ HB33.out).mono ?_
  rintro e w34 ⟨rfl, hB34⟩
  have HB34 := hid hB34
  clear hB34 HB33 HPl
  go_wp2_with fail
  refine ⟨⟨HB34.out.bl (pb, 31, opC p) (by simp), HB34.out.bl (qb, 36, rzC z3) (by simp)⟩, ?_⟩
  go_wp2_with fail
  refine ⟨⟨HB34.out.bl (pb, 31, opC p) (by simp), HB34.out.bl (qb, 36, rzC z3) (by simp)⟩, ?_⟩
  go_wp2_with fail
  refine ⟨⟨HB34.out.bl (pb, 31, opC p) (by simp), HB34.out.bl (qb, 36, rzC z3) (by simp)⟩, ?_⟩
  apply Exists.intro
  refine ⟨?_, ?_⟩
  · intro W hW
    have s0 : ∀ x, (W x).cell? ⟨pb, 0, none⟩ = some (.int .u8 (p.ac : Int)) := fun x => (hW x).1.cell 0
    have s1 : ∀ x, (W x).cell? ⟨pb, 1, none⟩ = some (.int .u8 (p.k : Int)) := fun x => (hW x).1.cell 1
    have s2 : ∀ x, (W x).cell? ⟨pb, 2, none⟩ = some (.int .u64 (p.a : Int)) := fun x => (hW x).1.cell 2
    have s3 : ∀ x, (W x).cell? ⟨pb, 3, none⟩ = some (.int .u64 (p.b : Int)) := fun x => (hW x).1.cell 3
    have s4 : ∀ x, (W x).cell? ⟨pb, 4, none⟩ = some (.int .u64 (p.c : Int)) := fun x => (hW x).1.cell 4
    have r0 : ∀ x, (W x).cell? ⟨qb, 0, none⟩ = some (.int .u8 (z3.c : Int)) := fun x => (hW x).2.cell 0
    have r1 : ∀ x, (W x).cell? ⟨qb, 1, none⟩ = some (.int .u64 (z3.v : Int)) := fun x => (hW x).2.cell 1
    have r2 : ∀ x, (W x).cell? ⟨qb, 2, none⟩ = some (.int .u64 (z3.a : Int)) := fun x => (hW x).2.cell 2
    have r3 : ∀ x, (W x).cell? ⟨qb, 3, none⟩ = some (.int .u64 (z3.b : Int)) := fun x => (hW x).2.cell 3
    have r4 : ∀ x, (W x).cell? ⟨qb, 4, none⟩ = some (.int .u64 (z3.d : Int)) := fun x => (hW x).2.cell 4
    have r5 : ∀ x, (W x).cell? ⟨qb, 5, none⟩ = some (.int .u64 (z3.e : Int)) := fun x => (hW x).2.cell 5
    have r6 : ∀ x, (W x).cell? ⟨qb, 6, none⟩ = some (.int .i64 (z3.h : Int)) := fun x => (hW x).2.cell 6
    have r7 : ∀ x, (W x).cell? ⟨qb, 7, none⟩ = some (.int .i64 (z3.r : Int)) := fun x => (hW x).2.cell 7
    clear hW
    repeat (go_big_quiet_step (fail))
    exact rfl
  go_wp2_with fail
  refine (HSp.out _ HB34.out).mono ?_
  rintro e w35 ⟨rfl, hB35⟩
  have HB35 := hid hB35
  clear hB35 HB34 HSp
  go_wp2_with fail
  refine ⟨⟨HB35.out.bl (pb, 31, opC p) (by simp), HB35.out.bl (qb, 36, rzC z3) (by simp)⟩, ?_⟩
  go_wp2_with fail
  refine ⟨⟨HB35.out.bl (pb, 31, opC p) (by simp), HB35.out.bl (qb, 36, rzC z3) (by simp)⟩, ?_⟩
  go_wp2_with fail
  refine ⟨⟨HB35.out.bl (pb, 31, opC p) (by simp), HB35.out.bl (qb, 36, rzC z3) (by simp)⟩, ?_⟩
  simp only [wpTr, QN]
  go_wp2
  exact ⟨⟨q + 1, by omega, by go_num, hid HB35.out.tail.tail⟩, by simp [intOf]; omega⟩
end Go.Proofs.Qxb6500889aDoor
