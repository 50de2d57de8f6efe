/- The law RefinesModel (written by tools/mk_ref.py). -/
import Derived.Test.Qxb6500889aDoorMuR2
import Derived.Test.Qxb6500889aDoorMuOp
namespace Go.Proofs.Qxb6500889aDoor
open Go.RowKit
set_option linter.unusedSimpArgs false
set_option linter.unusedVariables false
structure R1 (w0 : World) (wB mB k : Nat) (wr : World) : Prop where
  ex : ∃ S M φ, WP w0 wB mB S M [] wr ∧ Rel S M φ ∧ S.k = k
set_option maxRecDepth 1000000 in
set_option maxHeartbeats 8000000 in
theorem refines_walk (a : Option Addr) (n c : Nat) (l : List OpP) (w : World) (hs : Script w a n c l) :
    Calls Tryd.prog 35 #[.slice a n c] w fun e w' => e = .returned (.bool true) ∧ Below w.heap.size w w' := by
  have HSm := hid (fun w => small_walk a n c w)
  have HS := hid hs
  have HNw := hid (fun w => newWorld_walk w)
  clear hs
  by_cases hsm : n ≤ 65536
  rotate_left
  · as_aux_lemma =>
    rw [decide_eq_false hsm] at HSm
    go_enter Tryd.func35, Tryd.ntmps35
    go_wp2_with (go_at_call 5; refine (HSm.out _).mono ?_; rintro e w' ⟨rfl, rfl⟩)
    go_ret
    exact ⟨rfl, Below.refl _ _⟩
  rw [decide_eq_true hsm] at HSm
  have I0 : Hid ((Tryd.prog.info? 36).map (·.size) = some 8) := hid info_rz
  have I1 : Hid ((Tryd.prog.info? 31).map (·.size) = some 5) := hid info_op
  go_enter Tryd.func35, Tryd.ntmps35
  go_wp2_with (go_at_call 5; refine (HSm.out _).mono ?_; rintro e w' ⟨rfl, rfl⟩)
  refine (HNw.out _).mono ?_
  rintro e w1 ⟨ρ1, L1, T1, V1, rfl, hW1, hl1, hb1⟩
  obtain ⟨mB, hmB⟩ : ∃ b, w1.heap.size = b := ⟨_, rfl⟩
  have HMn := hid (mnew_walk w1 hmB)
  have HWs : Hid (∀ w2, MN w2 (fup (fun _ => 0) mB 1) (N0 mB) M0 → Below w1.heap.size w1 w2 → R1 w' V1.wB mB 0 w2) := hid (fun w2 h2 b2 => ⟨_, M0, id, WP.start hW1 hl1 hb1 hmB h2 b2, Rel.zero, rfl⟩)
  generalize V1.wB = wB at HWs ⊢
  clear hW1 hl1 hb1 HNw HSm hmB
  go_wp2_with fail
  refine HMn.out.mono ?_
  rintro e w2 ⟨rfl, h2, b2⟩
  have HLI : Hid (R1 w' wB mB 0 w2) := hid (HWs.out w2 h2 b2)
  clear HMn HWs h2 b2
  go_wp2_with fail
  go_loopw [16] (fun v wr => ∃ i : Nat, i ≤ n ∧ v = .int .i64 (i : Int) ∧ Hid (R1 w' wB mB i wr)) (fun v _ => n - (intOf v).toNat)
  case atStart => exact ⟨0, by omega, rfl, HLI⟩
  case round =>
  clear HLI
  obtain ⟨i, hi, rfl, HLI⟩ := hrel
  obtain ⟨S, M, φ, hWP, hRel, hSk⟩ := HLI.out.ex
  have HW := hid hWP
  have HRel := hid hRel
  have HSk := hid hSk
  have HBel : Hid (Below w'.heap.size w' wr) := hid hWP.lw.bel
  clear hWP hRel HLI
  by_cases hin : i < n
  rotate_left
  · as_aux_lemma =>
    have di : decide ((i : Int) < (n : Int)) = false := decide_eq_false (by omega)
    go_wp2_with fail
    refine (HW.out.alike HRel.out (by omega)).mono ?_
    rintro e w9 ⟨rfl, _, hb9⟩
    go_wp2
    go_ret
    exact ⟨rfl, HBel.out.trans (hb9.mono HBel.out.size)⟩
  have di : decide ((i : Int) < (n : Int)) = true := decide_eq_true (by omega)
  have hii : (i : Int) < (n : Int) := by omega
  obtain ⟨o, ho, hok, b, off, rfl, hb, c0, c1, c2, c3, c4⟩ := (HS.out.below HBel.out).at hin
  have HOk := hid hok
  clear ho hok
  obtain ⟨ob, hob⟩ : ∃ p, wr.heap.size = p := ⟨_, rfl⟩
  go_upto_region 7 with fail
  obtain ⟨w3, hw3⟩ : ∃ w2, wr.alloc (.cells #[.int .u8 (o.ac : Int), .int .u8 (o.k : Int), .int .u64 (o.a : Int), .int .u64 (o.b : Int), .int .u64 (o.c : Int)] 31) = w2 := ⟨_, rfl⟩
  have HW3 : Hid (WP w' wB mB S M [(ob, 31, opC o)] w3) := hid (by
    rw [← hw3]
    have := HW.out.alloc (opC o) 31
    rw [hob] at this
    exact this)
  simp only [hw3]
  clear hw3 hob c0 c1 c2 c3 c4 HW HBel
  go_wp2_with (refine wpList_load_blk rfl 31 _ rfl ob rfl (opC o) (HW3.out.bl (ob, 31, opC o) (by simp)).1 _ Tryd.underlying31 rfl I1.out ?_)
  refine (HW3.out.play (by omega) o HOk.out).mono ?_
  rintro e w4 ⟨z, S4, rfl, hp4, hW4⟩
  obtain ⟨hzz, h8, φ4, hRel4⟩ := HRel.out.step HW3.out.lw (by omega) HOk.out hp4
  have HBM : Hid (MBd M S.k ∧ MIds M) := hid ⟨HRel.out.mbd HW3.out.lw (by omega), HRel.out.ids HW3.out.lw.hi⟩
  have Hk4 : Hid (S4.k = i + 1) := hid (by rw [hp4.k, HSk.out])
  have HRel4 := hid hRel4
  have Hzz := hid hzz
  have H8 := hid h8
  obtain ⟨rb, hrb⟩ : ∃ p, w4.heap.size = p := ⟨_, rfl⟩
  obtain ⟨w5, hw5⟩ : ∃ w5, w4.alloc (.cells (rzC (rzR 0)).toArray 36) = w5 := ⟨_, rfl⟩
  have HD5 : Hid (WP w' wB mB S4 M [(rb, 36, rzC (rzR 0)), (ob, 31, opC o)] w5) := hid (by
    have := hW4.alloc (rzC (rzR 0)) 36
    rw [hrb, hw5] at this
    exact this)
  have hw5' : w4.alloc (.cells #[.int .u8 0, .int .u64 0, .int .u64 0, .int .u64 0, .int .u64 0, .int .u64 0, .int .i64 0, .int .i64 0] 36) = w5 := hw5
  clear hw5 hp4 hW4 HW3 hzz h8 hRel4
  go_upto_region 8 with (refine wpList_store_blk rfl 36 _ _ rfl rb rfl (rzC z) rfl (HD5.out.bl (rb, 36, rzC (rzR 0)) (by simp)).1 rfl I0.out (rz_one _) ?_; intro w6 HBs HUs)
  have HD6 : Hid (WP w' wB mB S4 M [(rb, 36, rzC z), (ob, 31, opC o)] w6) := hid (HD5.out.set (i := 0) rfl HBs.out HUs.out)
  clear HD5 HBs HUs hw5' hrb
  have c0 : w6.cell? ⟨rb, 0, none⟩ = some (.int .u8 (z.c : Int)) := (HD6.out.bl (rb, 36, rzC z) (by simp)).1.cell 0
  obtain ⟨alt, halt⟩ : ∃ x, M.alt = x := ⟨_, rfl⟩
  have altb : (alt : Int) ≤ 1000000000 := by have := HRel.out.lt; rw [halt, hSk] at this; omega
  have HAl : Hid (∀ wy, Below w6.heap.size w6 wy → wy.cell? ⟨mB, 14, none⟩ = some (.int .i64 (alt : Int)) ∧ wy.cell? ⟨ob, 2, none⟩ = some (.int .u64 (o.a : Int))) := hid (fun wy hy => by
    have h1 := HD6.out.below hy
    refine ⟨?_, (h1.bl (ob, 31, opC o) (by simp)).1.cell 2⟩
    obtain ⟨σ, N, k1, k2, _⟩ := h1.ex
    have := k1.cell 14
    rw [k2] at this
    rw [this, ← halt]
    rfl)
  rw [halt] at H8
  have hk9 : S.k < 100000000000 := by omega
  clear halt HSk hSk
  by_cases hc8 : z.c = 8
  · as_aux_lemma =>
    obtain ⟨a1, a2, a3⟩ := H8.out hc8
    have d8 : ((z.c : Int) != 8) = false := by rw [hc8]; rfl
    have a4 : (o.a : Int) ≤ 8192 := by omega
    have HWd : Hid (∀ w9 : World, Calls Tryd.prog 47 #[.int .i64 (o.a : Int)] w9 fun e w' => e = .returned (.int .i64 ((wrdM o.a : Nat) : Int)) ∧ w' = w9) := hid (fun w9 => words_walk o.a (by omega) w9)
    have wdb : wrdM o.a ≤ 8194 := by unfold wrdM; omega
    generalize wrdM o.a = wd9 at HWd a3 wdb
    have wdb2 : (wd9 : Int) ≤ 8194 := by omega
    have dle : decide ((alt : Int) + (wd9 : Int) ≤ 32768) = false := decide_eq_false (by omega)
    have dle2 : decide (alt + wd9 ≤ 32768) = false := decide_eq_false (by omega)
    have Hroom : Hid (decide (z.c ≠ 8) = false) := hid (by rw [hc8]; rfl)
    rw [Hroom.out] at Hzz HRel4
    clear hc8
    go_upto_region 9 with fail
    refine wp_region_heavy (fun wy => Below w6.heap.size w6 wy) 14 [0, 1, 2, 3, 4, 5, 6, 7, 8, 9, 10, 11, 12, 13] [] rfl (by kernel_rfl) (by kernel_rfl) (fun d _ _ _ _ h => by cases d <;> exact h) (Drew.below ⟨1, rfl⟩ _) ?_
    apply Exists.intro
    refine ⟨?_, ?_⟩
    · intro W hW
      have q0 := fun x => (HAl.out _ (hW x)).1
      have q1 := fun x => (HAl.out _ (hW x)).2
      clear hW
      simp only [List.take, opsAt, List.drop, List.cons_append, List.nil_append]
      repeat (go_big_quiet_step ((go_at_call 47; exact Calls.class_same (HWd.out _))))
      exact rfl
    simp only [List.take, List.drop, opsAt, List.cons_append, List.nil_append, wpHv, QN]
    have HB7 : Hid (Below w6.heap.size w6 w6.drew) := hid (Drew.below ⟨1, rfl⟩ _)
    generalize w6.drew = w7 at HB7 ⊢
    have HD7 := hid (HD6.out.below HB7.out)
    clear HD6 HAl H8 c0 HRel
    (try rw [dle2])
    go_upto_region 11 with fail
    have HSt := hid (fun wy (hy : WP w' wB mB S4 M [(rb, 36, rzC z), (ob, 31, opC o)] wy) => hy.step HBM.out.1 hk9 HBM.out.2 o HOk.out false)
    rw [Hzz.out] at HSt
    have HE7 : Hid (∀ wy, Blk wy rb 36 (rzC z) → ∀ j v, (rzC z)[j]? = some v → wy.cell? ⟨rb, j, none⟩ = some v) := hid (fun wy h j v hj => by rw [h.cell]; exact hj)
    refine wp_region_heavy (fun wy => Blk wy rb 36 (rzC z) ∧ Blk wy ob 31 (opC o)) 6 [0, 1, 2, 3] [4, 5] rfl (by kernel_rfl) (by kernel_rfl) (fun d _ _ _ _ h => by cases d <;> exact h) (by have h1 := HD7.out.below (Drew.below ⟨1, rfl⟩ _); exact ⟨(h1.bl (rb, 36, rzC z) (by simp)).1, (h1.bl (ob, 31, opC o) (by simp)).1⟩) ?_
    apply Exists.intro
    refine ⟨?_, ?_⟩
    · intro W hW
      have r0 : ∀ x, (W x).cell? ⟨rb, 0, none⟩ = some (.int .u8 (z.c : Int)) := fun x => (hW x).1.cell 0
      have r1 : ∀ x, (W x).cell? ⟨rb, 1, none⟩ = some (.int .u64 (z.v : Int)) := fun x => (hW x).1.cell 1
      have r2 : ∀ x, (W x).cell? ⟨rb, 2, none⟩ = some (.int .u64 (z.a : Int)) := fun x => (hW x).1.cell 2
      have r3 : ∀ x, (W x).cell? ⟨rb, 3, none⟩ = some (.int .u64 (z.b : Int)) := fun x => (hW x).1.cell 3
      have r4 : ∀ x, (W x).cell? ⟨rb, 4, none⟩ = some (.int .u64 (z.d : Int)) := fun x => (hW x).1.cell 4
      have r5 : ∀ x, (W x).cell? ⟨rb, 5, none⟩ = some (.int .u64 (z.e : Int)) := fun x => (hW x).1.cell 5
      have r6 : ∀ x, (W x).cell? ⟨rb, 6, none⟩ = some (.int .i64 (z.h : Int)) := fun x => (hW x).1.cell 6
      have r7 : ∀ x, (W x).cell? ⟨rb, 7, none⟩ = some (.int .i64 (z.r : Int)) := fun x => (hW x).1.cell 7
      have s0 : ∀ x, (W x).cell? ⟨ob, 0, none⟩ = some (.int .u8 (o.ac : Int)) := fun x => (hW x).2.cell 0
      have s1 : ∀ x, (W x).cell? ⟨ob, 1, none⟩ = some (.int .u8 (o.k : Int)) := fun x => (hW x).2.cell 1
      have s2 : ∀ x, (W x).cell? ⟨ob, 2, none⟩ = some (.int .u64 (o.a : Int)) := fun x => (hW x).2.cell 2
      have s3 : ∀ x, (W x).cell? ⟨ob, 3, none⟩ = some (.int .u64 (o.b : Int)) := fun x => (hW x).2.cell 3
      have s4 : ∀ x, (W x).cell? ⟨ob, 4, none⟩ = some (.int .u64 (o.c : Int)) := fun x => (hW x).2.cell 4
      clear hW
      simp only [List.take, opsAt, List.drop, List.cons_append, List.nil_append]
      repeat (go_big_quiet_step (fail))
      exact rfl
    simp only [List.take, List.drop, opsAt, List.cons_append, List.nil_append, wpHv]
    have HD8 : Hid (WP w' wB mB S4 M [(rb, 36, rzC z), (ob, 31, opC o)] w7.drew) := hid (HD7.out.below (Drew.below ⟨1, rfl⟩ _))
    generalize w7.drew = w8 at HD8 ⊢
    clear HB7
    have hne : ∀ w9 : World, (binOp .neq 36 (.agg #[.int .u8 (z.c : Int), .int .u64 (z.v : Int), .int .u64 (z.a : Int), .int .u64 (z.b : Int), .int .u64 (z.d : Int), .int .u64 (z.e : Int), .int .i64 (z.h : Int), .int .i64 (z.r : Int)]) (.agg (rzC z).toArray)).run Tryd.prog w9 = .ok (.bool false) w9 := fun w9 => neq_rz z w9
    go_wp2_with fail
    refine (HSt.out _ HD8.out).mono ?_
    rintro e w9 ⟨rfl, hD9⟩
    have HD9 := hid hD9
    have HBk : Hid (Blk w9 rb 36 (rzC z) ∧ Blk w9 ob 31 (opC o)) := hid ⟨(hD9.bl (rb, 36, rzC z) (by simp)).1, (hD9.bl (ob, 31, opC o) (by simp)).1⟩
    generalize mCnt (mDo M o false).1 z = M9 at HD9 HRel4
    clear hD9 HD8 HSt
    go_wp2_with fail
    refine ⟨HBk.out, ?_⟩
    go_wp2_with fail
    refine ⟨HBk.out, ?_⟩
    simp only [QN]
    clear hne
    have s0 : w9.cell? ⟨ob, 0, none⟩ = some (.int .u8 (o.ac : Int)) := HBk.out.2.cell 0
    have s1 : w9.cell? ⟨ob, 1, none⟩ = some (.int .u8 (o.k : Int)) := HBk.out.2.cell 1
    have HFin : Hid (∀ wq, WP w' wB mB S4 M9 [(rb, 36, rzC z), (ob, 31, opC o)] wq → R1 w' wB mB (i + 1) wq) := hid (fun wq hq => ⟨S4, M9, φ4, hq.drop, HRel4.out, Hk4.out⟩)
    have HAk := hid (HD9.out.alike HRel4.out (by have := Hk4.out; omega))
    by_cases h4 : 4 ≤ o.ac
    · as_aux_lemma =>
      have d4 : decide ((o.ac : Int) ≥ 4) = true := decide_eq_true (by omega)
      have d4' : decide ((4 : Int) ≤ (o.ac : Int)) = true := decide_eq_true (by omega)
      go_wp2_with fail
      refine HAk.out.mono ?_
      rintro e w10 ⟨rfl, h10, _⟩
      have HN1 := hid (HFin.out _ h10)
      clear h10
      go_wp2
      exact ⟨⟨i + 1, by omega, by go_num, HN1⟩, by simp [intOf]; omega⟩
    have d4 : decide ((o.ac : Int) ≥ 4) = false := decide_eq_false (by omega)
    have d4' : decide ((4 : Int) ≤ (o.ac : Int)) = false := decide_eq_false (by omega)
    by_cases h7 : o.k = 7
    · as_aux_lemma =>
      have d7 : ((o.k : Int) == 7) = true := by rw [h7]; rfl
      go_wp2_with fail
      refine HAk.out.mono ?_
      rintro e w10 ⟨rfl, h10, _⟩
      have HN1 := hid (HFin.out _ h10)
      clear h10
      go_wp2
      exact ⟨⟨i + 1, by omega, by go_num, HN1⟩, by simp [intOf]; omega⟩
    have d7 : ((o.k : Int) == 7) = false := by simp; omega
    by_cases h0 : o.k = 0
    · as_aux_lemma =>
      have d0 : ((o.k : Int) == 0) = true := by rw [h0]; rfl
      go_wp2_with fail
      refine HAk.out.mono ?_
      rintro e w10 ⟨rfl, h10, _⟩
      have HN1 := hid (HFin.out _ h10)
      clear h10
      go_wp2
      exact ⟨⟨i + 1, by omega, by go_num, HN1⟩, by simp [intOf]; omega⟩
    as_aux_lemma =>
    have d0 : ((o.k : Int) == 0) = false := by simp; omega
    have HN1 := hid (HFin.out _ HD9.out)
    clear HAk HD9
    go_wp2
    exact ⟨⟨i + 1, by omega, by go_num, HN1⟩, by simp [intOf]; omega⟩
  as_aux_lemma =>
  have d8 : ((z.c : Int) != 8) = true := by simp; omega
  have Hroom : Hid (decide (z.c ≠ 8) = true) := hid (by exact decide_eq_true hc8)
  rw [Hroom.out] at Hzz HRel4
  clear hc8
  go_upto_region 9 with fail
  refine wp_region_heavy (fun wy => Below w6.heap.size w6 wy) 14 [0, 1, 2, 3, 4, 5, 6, 7, 8, 9, 10, 11, 12, 13] [] rfl (by kernel_rfl) (by kernel_rfl) (fun d _ _ _ _ h => by cases d <;> exact h) (Drew.below ⟨1, rfl⟩ _) ?_
  apply Exists.intro
  refine ⟨?_, ?_⟩
  · intro W hW
    have q0 := fun x => (HAl.out _ (hW x)).1
    have q1 := fun x => (HAl.out _ (hW x)).2
    clear hW
    simp only [List.take, opsAt, List.drop, List.cons_append, List.nil_append]
    repeat (go_big_quiet_step (fail))
    exact rfl
  simp only [List.take, List.drop, opsAt, List.cons_append, List.nil_append, wpHv, QN]
  have HB7 : Hid (Below w6.heap.size w6 w6.drew) := hid (Drew.below ⟨1, rfl⟩ _)
  generalize w6.drew = w7 at HB7 ⊢
  have HD7 := hid (HD6.out.below HB7.out)
  clear HD6 HAl H8 c0 HRel
  go_upto_region 11 with fail
  have HSt := hid (fun wy (hy : WP w' wB mB S4 M [(rb, 36, rzC z), (ob, 31, opC o)] wy) => hy.step HBM.out.1 hk9 HBM.out.2 o HOk.out true)
  rw [Hzz.out] at HSt
  have HE7 : Hid (∀ wy, Blk wy rb 36 (rzC z) → ∀ j v, (rzC z)[j]? = some v → wy.cell? ⟨rb, j, none⟩ = some v) := hid (fun wy h j v hj => by rw [h.cell]; exact hj)
  refine wp_region_heavy (fun wy => Blk wy rb 36 (rzC z) ∧ Blk wy ob 31 (opC o)) 6 [0, 1, 2, 3] [4, 5] rfl (by kernel_rfl) (by kernel_rfl) (fun d _ _ _ _ h => by cases d <;> exact h) (by have h1 := HD7.out.below (Drew.below ⟨1, rfl⟩ _); exact ⟨(h1.bl (rb, 36, rzC z) (by simp)).1, (h1.bl (ob, 31, opC o) (by simp)).1⟩) ?_
  apply Exists.intro
  refine ⟨?_, ?_⟩
  · intro W hW
    have r0 : ∀ x, (W x).cell? ⟨rb, 0, none⟩ = some (.int .u8 (z.c : Int)) := fun x => (hW x).1.cell 0
    have r1 : ∀ x, (W x).cell? ⟨rb, 1, none⟩ = some (.int .u64 (z.v : Int)) := fun x => (hW x).1.cell 1
    have r2 : ∀ x, (W x).cell? ⟨rb, 2, none⟩ = some (.int .u64 (z.a : Int)) := fun x => (hW x).1.cell 2
    have r3 : ∀ x, (W x).cell? ⟨rb, 3, none⟩ = some (.int .u64 (z.b : Int)) := fun x => (hW x).1.cell 3
    have r4 : ∀ x, (W x).cell? ⟨rb, 4, none⟩ = some (.int .u64 (z.d : Int)) := fun x => (hW x).1.cell 4
    have r5 : ∀ x, (W x).cell? ⟨rb, 5, none⟩ = some (.int .u64 (z.e : Int)) := fun x => (hW x).1.cell 5
    have r6 : ∀ x, (W x).cell? ⟨rb, 6, none⟩ = some (.int .i64 (z.h : Int)) := fun x => (hW x).1.cell 6
    have r7 : ∀ x, (W x).cell? ⟨rb, 7, none⟩ = some (.int .i64 (z.r : Int)) := fun x => (hW x).1.cell 7
    have s0 : ∀ x, (W x).cell? ⟨ob, 0, none⟩ = some (.int .u8 (o.ac : Int)) := fun x => (hW x).2.cell 0
    have s1 : ∀ x, (W x).cell? ⟨ob, 1, none⟩ = some (.int .u8 (o.k : Int)) := fun x => (hW x).2.cell 1
    have s2 : ∀ x, (W x).cell? ⟨ob, 2, none⟩ = some (.int .u64 (o.a : Int)) := fun x => (hW x).2.cell 2
    have s3 : ∀ x, (W x).cell? ⟨ob, 3, none⟩ = some (.int .u64 (o.b : Int)) := fun x => (hW x).2.cell 3
    have s4 : ∀ x, (W x).cell? ⟨ob, 4, none⟩ = some (.int .u64 (o.c : Int)) := fun x => (hW x).2.cell 4
    clear hW
    simp only [List.take, opsAt, List.drop, List.cons_append, List.nil_append]
    repeat (go_big_quiet_step (fail))
    exact rfl
  simp only [List.take, List.drop, opsAt, List.cons_append, List.nil_append, wpHv]
  have HD8 : Hid (WP w' wB mB S4 M [(rb, 36, rzC z), (ob, 31, opC o)] w7.drew) := hid (HD7.out.below (Drew.below ⟨1, rfl⟩ _))
  generalize w7.drew = w8 at HD8 ⊢
  clear HB7
  have hne : ∀ w9 : World, (binOp .neq 36 (.agg #[.int .u8 (z.c : Int), .int .u64 (z.v : Int), .int .u64 (z.a : Int), .int .u64 (z.b : Int), .int .u64 (z.d : Int), .int .u64 (z.e : Int), .int .i64 (z.h : Int), .int .i64 (z.r : Int)]) (.agg (rzC z).toArray)).run Tryd.prog w9 = .ok (.bool false) w9 := fun w9 => neq_rz z w9
  go_wp2_with fail
  refine (HSt.out _ HD8.out).mono ?_
  rintro e w9 ⟨rfl, hD9⟩
  have HD9 := hid hD9
  have HBk : Hid (Blk w9 rb 36 (rzC z) ∧ Blk w9 ob 31 (opC o)) := hid ⟨(hD9.bl (rb, 36, rzC z) (by simp)).1, (hD9.bl (ob, 31, opC o) (by simp)).1⟩
  generalize mCnt (mDo M o true).1 z = M9 at HD9 HRel4
  clear hD9 HD8 HSt
  go_wp2_with fail
  refine ⟨HBk.out, ?_⟩
  go_wp2_with fail
  refine ⟨HBk.out, ?_⟩
  simp only [QN]
  clear hne
  have s0 : w9.cell? ⟨ob, 0, none⟩ = some (.int .u8 (o.ac : Int)) := HBk.out.2.cell 0
  have s1 : w9.cell? ⟨ob, 1, none⟩ = some (.int .u8 (o.k : Int)) := HBk.out.2.cell 1
  have HFin : Hid (∀ wq, WP w' wB mB S4 M9 [(rb, 36, rzC z), (ob, 31, opC o)] wq → R1 w' wB mB (i + 1) wq) := hid (fun wq hq => ⟨S4, M9, φ4, hq.drop, HRel4.out, Hk4.out⟩)
  have HAk := hid (HD9.out.alike HRel4.out (by have := Hk4.out; omega))
  by_cases h4 : 4 ≤ o.ac
  · as_aux_lemma =>
    have d4 : decide ((o.ac : Int) ≥ 4) = true := decide_eq_true (by omega)
    have d4' : decide ((4 : Int) ≤ (o.ac : Int)) = true := decide_eq_true (by omega)
    go_wp2_with fail
    refine HAk.out.mono ?_
    rintro e w10 ⟨rfl, h10, _⟩
    have HN1 := hid (HFin.out _ h10)
    clear h10
    go_wp2
    exact ⟨⟨i + 1, by omega, by go_num, HN1⟩, by simp [intOf]; omega⟩
  have d4 : decide ((o.ac : Int) ≥ 4) = false := decide_eq_false (by omega)
  have d4' : decide ((4 : Int) ≤ (o.ac : Int)) = false := decide_eq_false (by omega)
  by_cases h7 : o.k = 7
  · as_aux_lemma =>
    have d7 : ((o.k : Int) == 7) = true := by rw [h7]; rfl
    go_wp2_with fail
    refine HAk.out.mono ?_
    rintro e w10 ⟨rfl, h10, _⟩
    have HN1 := hid (HFin.out _ h10)
    clear h10
    go_wp2
    exact ⟨⟨i + 1, by omega, by go_num, HN1⟩, by simp [intOf]; omega⟩
  have d7 : ((o.k : Int) == 7) = false := by simp; omega
  by_cases h0 : o.k = 0
  · as_aux_lemma =>
    have d0 : ((o.k : Int) == 0) = true := by rw [h0]; rfl
    go_wp2_with fail
    refine HAk.out.mono ?_
    rintro e w10 ⟨rfl, h10, _⟩
    have HN1 := hid (HFin.out _ h10)
    clear h10
    go_wp2
    exact ⟨⟨i + 1, by omega, by go_num, HN1⟩, by simp [intOf]; omega⟩
  as_aux_lemma =>
  have d0 : ((o.k : Int) == 0) = false := by simp; omega
  have HN1 := hid (HFin.out _ HD9.out)
  clear HAk HD9
  go_wp2
  exact ⟨⟨i + 1, by omega, by go_num, HN1⟩, by simp [intOf]; omega⟩
end Go.Proofs.Qxb6500889aDoor
