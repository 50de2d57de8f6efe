/- The law CollectorStepsChangeNoAnswer. -/
import Derived.Test.Qxb6500889aMuP7
namespace Go.Proofs.Qxb6500889a
open Go.RowKit
set_option linter.unusedSimpArgs false
set_option linter.unusedVariables false
structure C2 (w0 : World) (wB1 wB2 i : Nat) (wr : World) : Prop where
  ex : ∃ S1 S2 M s φ1 φ2, D2 w0 wB1 wB2 S1 S2 [] wr ∧ S1.k = i ∧ S2.k ≤ i ∧ RM S1.H S1.X S1.G M φ1 ∧ RM S2.H S2.X S2.G (stM M s) φ2
/-- Both worlds behind a step that both play. -/
theorem both_step {H1 H1' H2 H2' : HS} {X1 X1' X2 X2' : XS} {G1 G2 : List Nat} {M : MS} {s n1 n2 : Nat} {φ1 φ2 : Nat → Nat} {o : OpP} {z1 z2 : Rz} (h1 : RM H1 X1 G1 M φ1) (h2 : RM H2 X2 G2 (stM M s) φ2) (i1 : HI H1 X1) (i2 : HI H2 X2) (n1' : XN X1 n1) (n2' : XN X2 n2) (b1 : n1 ≤ 100000000000) (b2 : n2 ≤ 100000000000) (hob : OpB o)
    (s1 : ∀ a x, H1.objs a = some x → x.refs.length + x.data.length ≤ 8192) (s2 : ∀ a x, H2.objs a = some x → x.refs.length + x.data.length ≤ 8192) (d1 : DoS H1 X1 o H1' X1' z1) (d2 : DoS H2 X2 o H2' X2' z2) (c1 : z1.c ≠ 8) (c2 : z2.c ≠ 8) :
    stZ0 z1 = stZ0 z2 ∧ ∃ M' s' φ1' φ2', RM H1' (doX X1' z1) (G1 ++ gvL o z1) M' φ1' ∧ RM H2' (doX X2' z2) (G2 ++ gvL o z2) (stM M' s') φ2' := by
  obtain ⟨φ1', r1, e1⟩ := h1.refd i1 n1' b1 hob s1 d1
  obtain ⟨φ2', r2, e2⟩ := h2.refd i2 n2' b2 hob s2 d2
  rw [decide_eq_true c1] at r1 e1
  rw [decide_eq_true c2] at r2 e2
  obtain ⟨k1, k2, k3⟩ := mDo_st (M := M) (s := s) o true
  rw [e1, e2] at k2 k3
  rw [k1] at r2
  refine ⟨k2.symm, mCnt (mDo M o true).1 z1, s + 1, φ1', φ2', r1.cnt z1, ?_⟩
  have := r2.cnt z2
  have e : mCnt (stM (mDo M o true).1 s) z2 = stM (mCnt (mDo M o true).1 z1) (s + 1) := by
    unfold mCnt stM
    rw [k3]
  rw [← e]
  exact this
theorem coll_step {H1 H1' : HS} {X1 X1' : XS} {G1 : List Nat} {M : MS} {n1 : Nat} {φ1 : Nat → Nat} {o : OpP} {z1 : Rz} (h1 : RM H1 X1 G1 M φ1) (i1 : HI H1 X1) (n1' : XN X1 n1) (b1 : n1 ≤ 100000000000) (hob : OpB o)
    (s1 : ∀ a x, H1.objs a = some x → x.refs.length + x.data.length ≤ 8192) (d1 : DoS H1 X1 o H1' X1' z1) (ha : 4 ≤ o.ac ∧ o.ac < 7) :
    z1 = rzR 0 ∧ ∃ M' φ1', RM H1' (doX X1' z1) (G1 ++ gvL o z1) M' φ1' ∧ ∀ s, stM M' s = stM M s := by
  obtain ⟨φ1', r1, e1⟩ := h1.refd i1 n1' b1 hob s1 d1
  have hz : z1 = rzR 0 := by
    cases d1 with
    | coll _ _ _ _ => rfl
    | bad h => omega
    | al h | rf h | wf h | rd h | wd h | pu h | po h | sf h | st h | kb h => omega
  have hm : ∀ r, (mDo M o r).1 = M := fun r => by
    unfold mDo
    rw [if_neg (by omega), if_pos ha.1]
  rw [hm] at r1
  exact ⟨hz, mCnt M z1, φ1', r1.cnt z1, fun s => by subst hz; rfl⟩
set_option maxRecDepth 1000000 in
set_option maxHeartbeats 4000000 in
theorem collector_walk (a : Option Addr) (n c : Nat) (l : List OpP) (w : World) (hs : Script w a n c l) :
    Calls Try.prog 5 #[.slice a n c] w fun e w' => e = .returned (.bool true) ∧ Below w.heap.size w w' := by
  have HSm := hid (fun w => small_walk a n c w)
  have HS := hid hs
  have HNw := hid (fun w => newWorld_walk w)
  have I0 : Hid ((Try.prog.info? 36).map (·.size) = some 8) := hid info_rz
  have I1 : Hid ((Try.prog.info? 31).map (·.size) = some 5) := hid info_op
  clear hs
  by_cases hsm : n ≤ 65536
  rotate_left
  · as_aux_lemma =>
    rw [decide_eq_false hsm] at HSm
    go_enter Try.func5, Try.ntmps5
    go_wp2_with (go_at_call 9; refine (HSm.out _).mono ?_; rintro e w' ⟨rfl, rfl⟩)
    go_ret
    exact ⟨rfl, Below.refl _ _⟩
  rw [decide_eq_true hsm] at HSm
  go_enter Try.func5, Try.ntmps5
  go_wp2_with (go_at_call 9; refine (HSm.out _).mono ?_; rintro e w' ⟨rfl, rfl⟩)
  refine (HNw.out _).mono ?_
  rintro e w1 ⟨ρ1, L1, T1, V1, rfl, hW1, hl1, hb1⟩
  have HW1 := hid hW1
  have Hl1 := hid hl1
  have Hb1 := hid hb1
  clear hW1 hl1 hb1
  go_wp2_with fail
  refine (HNw.out _).mono ?_
  rintro e w2 ⟨ρ2, L2, T2, V2, rfl, hW2, hl2, hb2⟩
  have HLI : Hid (C2 w' V1.wB V2.wB 0 w2) := hid ⟨_, _, M0, 0, id, id, D2.start HW1.out Hl1.out Hb1.out hW2 hl2 hb2, rfl, Nat.le_refl _, RM.zero, RM.zero⟩
  generalize V1.wB = wB1 at HLI ⊢
  generalize V2.wB = wB2 at HLI ⊢
  clear hW2 hl2 hb2 HW1 Hl1 Hb1 HNw HSm
  go_wp2_with fail
  go_loopw [16] (fun v wr => ∃ i : Nat, i ≤ n ∧ v = .int .i64 (i : Int) ∧ Hid (C2 w' wB1 wB2 i wr)) (fun v _ => n - (intOf v).toNat)
  case atStart => exact ⟨0, by omega, rfl, HLI⟩
  case round =>
  clear HLI
  obtain ⟨i, hi, rfl, HLI⟩ := hrel
  obtain ⟨S1, S2, M, s, φ1, φ2, hD, hk1, hk2, hR1, hR2⟩ := HLI.out.ex
  have HD := hid hD
  have HP := hid (And.intro hR1 hR2)
  clear hD hR1 hR2 HLI
  by_cases hin : i < n
  rotate_left
  · as_aux_lemma =>
    have di : decide ((i : Int) < (n : Int)) = false := decide_eq_false (by omega)
    go_wp2
    go_ret
    exact ⟨rfl, HD.out.a.bel⟩
  have di : decide ((i : Int) < (n : Int)) = true := decide_eq_true (by omega)
  have hii : (i : Int) < (n : Int) := by omega
  obtain ⟨o, ho, hok, b, off, rfl, hb, c0, c1, c2, c3, c4⟩ := (HS.out.below HD.out.a.bel).at hin
  have HOk := hid hok
  clear ho hok
  obtain ⟨ob, hob⟩ : ∃ p, wr.heap.size = p := ⟨_, rfl⟩
  go_upto_region 7 with fail
  obtain ⟨w3, hw3⟩ : ∃ w2, wr.alloc (.cells #[.int .u8 (o.ac : Int), .int .u8 (o.k : Int), .int .u64 (o.a : Int), .int .u64 (o.b : Int), .int .u64 (o.c : Int)] 31) = w2 := ⟨_, rfl⟩
  have HD3 : Hid (D2 w' wB1 wB2 S1 S2 [(ob, 31, opC o)] w3) := hid (by
    rw [← hw3]
    have := HD.out.alloc (opC o) 31
    rw [hob] at this
    exact this)
  simp only [hw3]
  clear hw3 hob c0 c1 c2 c3 c4 HD
  go_wp2_with (refine wpList_load_blk rfl 31 _ rfl ob rfl (opC o) (HD3.out.bl (ob, 31, opC o) (by simp)).1 _ Try.underlying31 rfl I1.out ?_)
  refine (HD3.out.play1 (by omega) o HOk.out).mono ?_
  rintro e w4 ⟨z, S4, rfl, hp4, hD4⟩
  have HIs : Hid (HI S1.H S1.X ∧ XN S1.X S1.k ∧ ∀ a x, S1.H.objs a = some x → x.refs.length + x.data.length ≤ 8192) := hid ⟨HD3.out.a.hi, HD3.out.a.xn, HD3.out.a.szs⟩
  obtain ⟨rb, hrb⟩ : ∃ p, w4.heap.size = p := ⟨_, rfl⟩
  obtain ⟨w5, hw5⟩ : ∃ w5, w4.alloc (.cells (rzC (rzR 0)).toArray 36) = w5 := ⟨_, rfl⟩
  have HP4 := hid hp4
  have HD5 : Hid (D2 w' wB1 wB2 S4 S2 [(rb, 36, rzC (rzR 0)), (ob, 31, opC o)] w5) := hid (by
    have := hD4.alloc (rzC (rzR 0)) 36
    rw [hrb, hw5] at this
    exact this)
  have hw5' : w4.alloc (.cells #[.int .u8 0, .int .u64 0, .int .u64 0, .int .u64 0, .int .u64 0, .int .u64 0, .int .i64 0, .int .i64 0] 36) = w5 := hw5
  clear hw5 hp4 hD4 HD3
  go_upto_region 8 with (refine wpList_store_blk rfl 36 _ _ rfl rb rfl (rzC z) rfl (HD5.out.bl (rb, 36, rzC (rzR 0)) (by simp)).1 rfl I0.out (rz_one _) ?_; intro w6 HBs HUs)
  have HD6 : Hid (D2 w' wB1 wB2 S4 S2 [(rb, 36, rzC z), (ob, 31, opC o)] w6) := hid (HD5.out.set (i := 0) rfl HBs.out HUs.out)
  clear HD5 HBs HUs hw5' hrb
  have c0 : w6.cell? ⟨ob, 0, none⟩ = some (.int .u8 (o.ac : Int)) := (HD6.out.bl (ob, 31, opC o) (by simp)).1.cell 0
  have k9 : Hid (S4.k = i + 1) := hid (by rw [HP4.out.k, hk1])
  by_cases hac : 4 ≤ o.ac ∧ o.ac < 7
  · as_aux_lemma =>
    obtain ⟨X4, hd4, hx4⟩ := HP4.out.ds
    obtain ⟨rfl, M', φ1', r1, r2⟩ := coll_step HP.out.1 HIs.out.1 HIs.out.2.1 (by omega) HOk.out HIs.out.2.2 hd4 hac
    have HLI : Hid (C2 w' wB1 wB2 (i + 1) w6) := hid ⟨S4, S2, M', s, φ1', φ2, HD6.out.drop, k9.out, by omega, by rw [hx4, HP4.out.G]; exact r1, by rw [r2]; exact HP.out.2⟩
    have d1 : decide ((o.ac : Int) ≥ 4) = true := decide_eq_true (by omega)
    have d2 : decide ((4 : Int) ≤ (o.ac : Int)) = true := decide_eq_true (by omega)
    have d3 : decide ((o.ac : Int) < 7) = true := decide_eq_true (by omega)
    have hne : ∀ w9 : World, (binOp .neq 36 (.agg (rzC (rzR 0)).toArray) (.agg #[.int .u8 0, .int .u64 0, .int .u64 0, .int .u64 0, .int .u64 0, .int .u64 0, .int .i64 0, .int .i64 0])).run Try.prog w9 = .ok (.bool false) w9 := fun w9 => neq_rz (rzR 0) w9
    clear hd4 hx4 r1 r2 HP HP4
    go_wp2_with (refine wpList_load_blk rfl 36 _ rfl rb rfl (rzC (rzR 0)) (HD6.out.bl (rb, 36, rzC (rzR 0)) (by simp)).1 _ Try.underlying36 rfl I0.out ?_)
    exact ⟨⟨i + 1, by omega, by go_num, HLI⟩, by simp [intOf]; omega⟩
  · have hcu : True := trivial
    go_frame
    go_cut [30] from 23 to 29 (fun v wc => v = .bool false ∧ wc = w6)
    case first =>
      as_aux_lemma =>
      by_cases h4 : 4 ≤ o.ac
      · have d1 : decide ((o.ac : Int) ≥ 4) = true := decide_eq_true (by omega)
        have d2 : decide ((4 : Int) ≤ (o.ac : Int)) = true := decide_eq_true (by omega)
        have d3 : decide ((o.ac : Int) < 7) = false := decide_eq_false (by omega)
        go_wp2
        go_meet
        case rel => exact ⟨rfl, rfl⟩
      · have d1 : decide ((o.ac : Int) ≥ 4) = false := decide_eq_false (by omega)
        have d2 : decide ((4 : Int) ≤ (o.ac : Int)) = false := decide_eq_false (by omega)
        go_wp2
        go_meet
        case rel => exact ⟨rfl, rfl⟩
    case rest =>
    obtain ⟨rfl, rfl⟩ := hcut
    as_aux_lemma =>
    clear hcu c0
    go_wp2_with (refine wpList_load_blk rfl 31 _ rfl ob rfl (opC o) (HD6.out.bl (ob, 31, opC o) (by simp)).1 _ Try.underlying31 rfl I1.out ?_)
    refine (HD6.out.play2 (by omega) o HOk.out).mono ?_
    rintro e w7 ⟨z2, S7, rfl, hp7, hD7⟩
    have HI2 : Hid (HI S2.H S2.X ∧ XN S2.X S2.k ∧ ∀ a x, S2.H.objs a = some x → x.refs.length + x.data.length ≤ 8192) := hid ⟨HD6.out.b.hi, HD6.out.b.xn, HD6.out.b.szs⟩
    obtain ⟨qb, hqb⟩ : ∃ p, w7.heap.size = p := ⟨_, rfl⟩
    obtain ⟨w8, hw8⟩ : ∃ w5, w7.alloc (.cells (rzC (rzR 0)).toArray 36) = w5 := ⟨_, rfl⟩
    have HP7 := hid hp7
    have HD8 : Hid (D2 w' wB1 wB2 S4 S7 [(qb, 36, rzC (rzR 0)), (rb, 36, rzC z), (ob, 31, opC o)] w8) := hid (by
      have := hD7.alloc (rzC (rzR 0)) 36
      rw [hqb, hw8] at this
      exact this)
    have hw8' : w7.alloc (.cells #[.int .u8 0, .int .u64 0, .int .u64 0, .int .u64 0, .int .u64 0, .int .u64 0, .int .i64 0, .int .i64 0] 36) = w8 := hw8
    clear hw8 hp7 hD7 HD6
    go_upto_region 12 with (refine wpList_store_blk rfl 36 _ _ rfl qb rfl (rzC z2) rfl (HD8.out.bl (qb, 36, rzC (rzR 0)) (by simp)).1 rfl I0.out (rz_one _) ?_; intro w9 HBs HUs)
    have HD9 : Hid (D2 w' wB1 wB2 S4 S7 [(qb, 36, rzC z2), (rb, 36, rzC z), (ob, 31, opC o)] w9) := hid (HD8.out.set (i := 0) rfl HBs.out HUs.out)
    clear HD8 HBs HUs hw8' hqb
    have q0 : w9.cell? ⟨qb, 0, none⟩ = some (.int .u8 (z2.c : Int)) := (HD9.out.bl (qb, 36, rzC z2) (by simp)).1.cell 0
    have r0 : w9.cell? ⟨rb, 0, none⟩ = some (.int .u8 (z.c : Int)) := (HD9.out.bl (rb, 36, rzC z) (by simp)).1.cell 0
    have HBel := hid HD9.out.a.bel
    by_cases e1 : z.c = 8
    · as_aux_lemma =>
      have d1 : ((z.c : Int) == 8) = true := by simp [e1]
      clear e1
      go_wp2
      go_ret
      exact ⟨rfl, HBel.out⟩
    have d1 : ((z.c : Int) == 8) = false := by simp; omega
    by_cases e2 : z2.c = 8
    · as_aux_lemma =>
      have d2 : ((z2.c : Int) == 8) = true := by simp [e2]
      clear e1 e2
      go_wp2
      go_ret
      exact ⟨rfl, HBel.out⟩
    as_aux_lemma =>
    have d2 : ((z2.c : Int) == 8) = false := by simp; omega
    obtain ⟨X4, hd4, hx4⟩ := HP4.out.ds
    obtain ⟨X7, hd7, hx7⟩ := HP7.out.ds
    obtain ⟨hzz, M', s', φ1', φ2', r1, r2⟩ := both_step HP.out.1 HP.out.2 HIs.out.1 HI2.out.1 HIs.out.2.1 HI2.out.2.1 (by omega) (by omega) HOk.out HIs.out.2.2 HI2.out.2.2 hd4 hd7 e1 e2
    have HC : Hid (∀ wq, D2 w' wB1 wB2 S4 S7 [] wq → C2 w' wB1 wB2 (i + 1) wq) := hid (fun wq hq => ⟨S4, S7, M', s', φ1', φ2', hq, k9.out, by rw [HP7.out.k]; omega, by rw [hx4, HP4.out.G]; exact r1, by rw [hx7, HP7.out.G]; exact r2⟩)
    have Hzz := hid hzz
    clear hd4 hx4 hd7 hx7 r1 r2 HP HP4 HP7 HIs HI2 hzz e1 e2
    have rbk := (HD9.out.bl (rb, 36, rzC z) (by simp)).1
    have qbk := (HD9.out.bl (qb, 36, rzC z2) (by simp)).1
    have hqr : qb ≠ rb := by have := HD9.out.nd; simp at this; exact this.1.1
    have q2 : w9.cell? ⟨rb, 2, none⟩ = some (.int .u64 (z.a : Int)) := rbk.cell 2
    have q3 := rbk.frozen 2
    have rbk2 := rbk.set 2 (.int .u64 0)
    have hu1 : Upd rb w9 (w9.setCell ⟨rb, 2, none⟩ (.int .u64 0)) := (Upd.refl rb w9).setCell (p := ⟨rb, 2, none⟩) rfl _
    have HD10 : Hid (D2 w' wB1 wB2 S4 S7 [(qb, 36, rzC z2), (rb, 36, rzC (stZ0 z)), (ob, 31, opC o)] (w9.setCell ⟨rb, 2, none⟩ (.int .u64 0))) := hid (HD9.out.set (i := 1) rfl rbk2 hu1)
    have qbk2 := (HD10.out.bl (qb, 36, rzC z2) (by simp)).1
    have q4 : (w9.setCell ⟨rb, 2, none⟩ (.int .u64 0)).cell? ⟨qb, 2, none⟩ = some (.int .u64 (z2.a : Int)) := qbk2.cell 2
    have q5 := qbk2.frozen 2
    have qbk3 := qbk2.set 2 (.int .u64 0)
    have hu2 : Upd qb (w9.setCell ⟨rb, 2, none⟩ (.int .u64 0)) ((w9.setCell ⟨rb, 2, none⟩ (.int .u64 0)).setCell ⟨qb, 2, none⟩ (.int .u64 0)) := (Upd.refl qb _).setCell (p := ⟨qb, 2, none⟩) rfl _
    have HD11 : Hid (D2 w' wB1 wB2 S4 S7 [(qb, 36, rzC (stZ0 z2)), (rb, 36, rzC (stZ0 z)), (ob, 31, opC o)] ((w9.setCell ⟨rb, 2, none⟩ (.int .u64 0)).setCell ⟨qb, 2, none⟩ (.int .u64 0))) := hid (HD10.out.set (i := 0) rfl qbk3 hu2)
    have hne : ∀ w9 : World, (binOp .neq 36 (.agg (rzC (stZ0 z)).toArray) (.agg (rzC (stZ0 z2)).toArray)).run Try.prog w9 = .ok (.bool false) w9 := fun w9 => by rw [← Hzz.out]; exact neq_rz (stZ0 z) w9
    clear rbk qbk rbk2 hu1 qbk2 qbk3 hu2 HD9 HD10
    go_upto_region 15 with fail
    generalize (w9.setCell ⟨rb, 2, none⟩ (.int .u64 0)).setCell ⟨qb, 2, none⟩ (.int .u64 0) = w11 at HD11 ⊢
    clear q0 r0 q2 q3 q4 q5
    go_wp2_with (first | (refine wpList_load_blk rfl 36 _ rfl rb rfl (rzC (stZ0 z)) (HD11.out.bl (rb, 36, rzC (stZ0 z)) (by simp)).1 _ Try.underlying36 rfl I0.out ?_) | (refine wpList_load_blk rfl 36 _ rfl qb rfl (rzC (stZ0 z2)) (HD11.out.bl (qb, 36, rzC (stZ0 z2)) (by simp)).1 _ Try.underlying36 rfl I0.out ?_))
    exact ⟨⟨i + 1, by omega, by go_num, hid (HC.out _ HD11.out.drop)⟩, by simp [intOf]; omega⟩
end Go.Proofs.Qxb6500889a
