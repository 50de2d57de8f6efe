/- The law RefusalsChangeNothing (written by tools/mk_rfl.py). -/
import Derived.Test.Qxb6500889aMuP8
namespace Go.Proofs.Qxb6500889a
open Go.RowKit
set_option linter.unusedSimpArgs false
set_option linter.unusedVariables false
structure R2 (w0 : World) (wB1 wB2 i sk : Nat) (wr : World) : Prop where
  ex : ∃ S1 S2, D2 w0 wB1 wB2 S1 S2 [] wr ∧ S1.k = i ∧ S2.k ≤ i ∧ S1.H = S2.H ∧ S1.X = addS S2.X sk ∧ S1.G = S2.G
  sk : sk ≤ i
/-- sameTables on two worlds in a law. -/
theorem D2.tables {w0 wr : World} {wB1 wB2 k : Nat} {S1 S2 : WSt} {xs : List XBk} (h : D2 w0 wB1 wB2 S1 S2 xs wr) (hk1 : S1.k ≤ 100000000000) (hk2 : S2.k ≤ 100000000000) (hH : S1.H = S2.H) (hX : S1.X = addS S2.X k) (hG : S1.G = S2.G) :
    Calls Try.prog 16 #[.pointer (some ⟨wB1, 0, none⟩), .pointer (some ⟨wB2, 0, none⟩)] wr fun e w' => e = .returned (.bool true) ∧ Below wr.heap.size wr w' := by
  have hb := h.b.wm
  rw [← hG] at hb
  have := sameTables_walk h.a.wm hb (h.a.xn.xb hk1) (h.b.xn.xb hk2) h.a.hi.rl h.b.hi.rl (SmT.add hH hX) (fun x hx => by
    obtain ⟨m, g, s, e, m4, s8, h3⟩ := h.a.gv.old x hx
    have := h.a.xn.gen m
    rw [e]
    exact hN_lt (by omega) m4 (by omega)) (by have := h.a.gl; omega)
  rw [h.a.hv, h.b.hv] at this
  exact this
set_option maxRecDepth 1000000 in
set_option maxHeartbeats 8000000 in
theorem refusals_walk (a : Option Addr) (n c : Nat) (l : List OpP) (w : World) (hs : Script w a n c l) :
    Calls Try.prog 4 #[.slice a n c] w fun e w' => e = .returned (.bool true) ∧ Below w.heap.size w w' := by
  have HSm := hid (fun w => small_walk a n c w)
  have HS := hid hs
  have HNw := hid (fun w => newWorld_walk w)
  have I0 : Hid ((Try.prog.info? 36).map (·.size) = some 8) := hid info_rz
  have I1 : Hid ((Try.prog.info? 31).map (·.size) = some 5) := hid info_op
  have ISt : Hid ((Try.prog.info? 34).map (·.size) = some 6) := hid info_st
  clear hs
  by_cases hsm : n ≤ 65536
  rotate_left
  · as_aux_lemma =>
    rw [decide_eq_false hsm] at HSm
    go_enter Try.func4, Try.ntmps4
    go_wp2_with (go_at_call 9; refine (HSm.out _).mono ?_; rintro e w' ⟨rfl, rfl⟩)
    go_ret
    exact ⟨rfl, Below.refl _ _⟩
  rw [decide_eq_true hsm] at HSm
  go_enter Try.func4, Try.ntmps4
  go_wp2_with (go_at_call 9; refine (HSm.out _).mono ?_; rintro e w' ⟨rfl, rfl⟩)
  refine (HNw.out _).mono ?_
  rintro e w1 ⟨ρ1, L1, T1, V1, rfl, hW1, hl1, hb1⟩
  have HW1 := hid hW1
  have Hl1 := hid hl1
  have Hb1 := hid hb1
  clear hW1 hl1 hb1
  go_wp2_with fail
  refine (HNw.out _).mono ?_
  rintro e w2 ⟨ρ2, L2, T2, V2, rfl, hW2, hl2, hb2⟩
  have HLI : Hid (R2 w' V1.wB V2.wB 0 0 w2) := hid ⟨⟨_, _, D2.start HW1.out Hl1.out Hb1.out hW2 hl2 hb2, rfl, Nat.le_refl _, rfl, rfl, rfl⟩, Nat.le_refl _⟩
  generalize V1.wB = wB1 at HLI ⊢
  generalize V2.wB = wB2 at HLI ⊢
  clear hW2 hl2 hb2 HW1 Hl1 Hb1 HNw HSm
  go_wp2_with fail
  go_loopw [5, 18] (fun sv v wr => ∃ i sk : Nat, i ≤ n ∧ sv = .int .u64 (sk : Int) ∧ v = .int .i64 (i : Int) ∧ Hid (R2 w' wB1 wB2 i sk wr)) (fun _ v _ => n - (intOf v).toNat)
  case atStart => exact ⟨0, 0, by omega, rfl, rfl, HLI⟩
  case round =>
  clear HLI
  obtain ⟨i, sk, hi, rfl, rfl, HLI⟩ := hrel
  obtain ⟨S1, S2, hD, hk1, hk2, hH, hX, hG⟩ := HLI.out.ex
  have hsk := HLI.out.sk
  have HD := hid hD
  have HP := hid (And.intro hH (And.intro hX hG))
  clear hD hH hX hG HLI
  by_cases hin : i < n
  · as_aux_lemma =>
    have di : decide ((i : Int) < (n : Int)) = true := decide_eq_true (by omega)
    have hii : (i : Int) < (n : Int) := by omega
    obtain ⟨o, ho, hok, b, off, rfl, hb, c0, c1, c2, c3, c4⟩ := (HS.out.below HD.out.a.bel).at hin
    have HOk := hid hok
    clear ho hok
    obtain ⟨ob, hob⟩ : ∃ p, wr.heap.size = p := ⟨_, rfl⟩
    go_upto_region 8 with fail
    obtain ⟨w3, hw3⟩ : ∃ w2, wr.alloc (.cells #[.int .u8 (o.ac : Int), .int .u8 (o.k : Int), .int .u64 (o.a : Int), .int .u64 (o.b : Int), .int .u64 (o.c : Int)] 31) = w2 := ⟨_, rfl⟩
    have HD3 : Hid (D2 w' wB1 wB2 S1 S2 [(ob, 31, opC o)] w3) := hid (by
      rw [← hw3]
      have := HD.out.alloc (opC o) 31
      rw [hob] at this
      exact this)
    simp only [hw3]
    clear hw3 hob c0 c1 c2 c3 c4 HD
    go_wp2_with (refine wpList_load_blk rfl 31 _ rfl ob rfl (opC o) (HD3.out.bl (ob, 31, opC o) (by simp)).1 _ Try.underlying31 rfl I1.out ?_)
    refine (HD3.out.play1 (by omega) o HOk.out).mono ?_
    rintro e w4 ⟨z, S4, rfl, hp4, hD4⟩
    obtain ⟨rb, hrb⟩ : ∃ p, w4.heap.size = p := ⟨_, rfl⟩
    obtain ⟨w5, hw5⟩ : ∃ w5, w4.alloc (.cells (rzC (rzR 0)).toArray 36) = w5 := ⟨_, rfl⟩
    have HP4 := hid hp4
    have HD5 : Hid (D2 w' wB1 wB2 S4 S2 [(rb, 36, rzC (rzR 0)), (ob, 31, opC o)] w5) := hid (by
      have := hD4.alloc (rzC (rzR 0)) 36
      rw [hrb, hw5] at this
      exact this)
    have hw5' : w4.alloc (.cells #[.int .u8 0, .int .u64 0, .int .u64 0, .int .u64 0, .int .u64 0, .int .u64 0, .int .i64 0, .int .i64 0] 36) = w5 := hw5
    clear hw5 hp4 hD4 HD3
    go_upto_region 9 with (refine wpList_store_blk rfl 36 _ _ rfl rb rfl (rzC z) rfl (HD5.out.bl (rb, 36, rzC (rzR 0)) (by simp)).1 rfl I0.out (rz_one _) ?_; intro w6 HBs HUs)
    have HD6 : Hid (D2 w' wB1 wB2 S4 S2 [(rb, 36, rzC z), (ob, 31, opC o)] w6) := hid (HD5.out.set (i := 0) rfl HBs.out HUs.out)
    clear HD5 HBs HUs hw5' hrb
    have c0 : w6.cell? ⟨rb, 0, none⟩ = some (.int .u8 (z.c : Int)) := (HD6.out.bl (rb, 36, rzC z) (by simp)).1.cell 0
    have k9 : Hid (S4.k = i + 1) := hid (by rw [HP4.out.k, hk1])
    obtain ⟨bb, hbb⟩ : ∃ b, decide (z.c = 0 ∨ z.c = 8) = b := ⟨_, rfl⟩
    go_frame
    go_cut [32] from 25 to 31 (fun v wc => v = .bool bb ∧ wc = w6)
    case first =>
      as_aux_lemma =>
      by_cases h0 : z.c = 0
      · have d1 : ((z.c : Int) == 0) = true := by simp [h0]
        have E1 : Hid (true = bb) := hid (by rw [← hbb]; simp [h0])
        clear h0 hbb
        go_wp2
        go_meet
        case rel => exact ⟨by rw [← E1.out], rfl⟩
      · have d1 : ((z.c : Int) == 0) = false := by simp; omega
        by_cases h8 : z.c = 8
        · have d2 : ((z.c : Int) == 8) = true := by simp [h8]
          have E1 : Hid (true = bb) := hid (by rw [← hbb]; simp [h8])
          clear h0 hbb h8
          go_wp2
          go_meet
          case rel => exact ⟨by rw [← E1.out], rfl⟩
        · have d2 : ((z.c : Int) == 8) = false := by simp; omega
          have E1 : Hid (false = bb) := hid (by rw [← hbb]; simp [h0, h8])
          clear h0 hbb h8
          go_wp2
          go_meet
          case rel => exact ⟨by rw [← E1.out], rfl⟩
    case rest =>
    obtain ⟨rfl, rfl⟩ := hcut
    clear c0
    cases bb with
    | true =>
      as_aux_lemma =>
      go_wp2_with (refine wpList_load_blk rfl 31 _ rfl ob rfl (opC o) (HD6.out.bl (ob, 31, opC o) (by simp)).1 _ Try.underlying31 rfl I1.out ?_)
      refine (HD6.out.play2 (by omega) o HOk.out).mono ?_
      rintro e w7 ⟨z2, S7, rfl, hp7, hD7⟩
      have HR : Hid (R2 w' wB1 wB2 (i + 1) sk w7) := hid ⟨⟨S4, S7, hD7.drop, k9.out, by rw [hp7.k]; omega, both_played HP.out.1 HP.out.2.1 HP.out.2.2 HP4.out hp7⟩, by omega⟩
      clear hp7 hD7 HD6 HP HP4
      go_wp2
      exact ⟨⟨i + 1, sk, by omega, rfl, by go_num, HR⟩, by simp [intOf]; omega⟩
    | false =>
      as_aux_lemma =>
      have hc := of_decide_eq_false hbb
      have hone := one_refused HP.out.1 HP.out.2.1 HP.out.2.2 HP4.out (fun e => hc (.inl e)) (fun e => hc (.inr e))
      have HTb := hid (HD6.out.tables (k := sk + 1) (by have := k9.out; omega) (by omega) hone.1 hone.2.1 hone.2.2)
      have HOn := hid hone
      have sb : (sk : Int) ≤ 100000 := by omega
      clear hone hc
      go_wp2_with fail
      refine HTb.out.mono ?_
      rintro e w7 ⟨rfl, hb7⟩
      have HR : Hid (R2 w' wB1 wB2 (i + 1) (sk + 1) w7) := hid ⟨⟨S4, S2, (HD6.out.below hb7).drop, k9.out, by omega, HOn.out⟩, by omega⟩
      clear hb7 HD6 HP HP4 HTb HOn
      go_wp2
      exact ⟨⟨i + 1, sk + 1, by omega, by go_num, by go_num, HR⟩, by simp [intOf]; omega⟩
  · as_aux_lemma =>
    have di : decide ((i : Int) < (n : Int)) = false := decide_eq_false (by omega)
    obtain ⟨xA, hxA⟩ : ∃ b, S1.T.xB = b := ⟨_, rfl⟩
    obtain ⟨xB, hxB⟩ : ∃ b, S2.T.xB = b := ⟨_, rfl⟩
    obtain ⟨gA, hgA⟩ : ∃ b, S1.L.hB = b := ⟨_, rfl⟩
    obtain ⟨gB, hgB⟩ : ∃ b, S2.L.hB = b := ⟨_, rfl⟩
    have HC : Hid (∀ wz, Below wr.heap.size wr wz → wz.cell? ⟨wB1, 1, none⟩ = some (.pointer (some ⟨xA, 0, none⟩)) ∧ wz.cell? ⟨wB2, 1, none⟩ = some (.pointer (some ⟨xB, 0, none⟩)) ∧ wz.cell? ⟨wB1, 0, none⟩ = some (.pointer (some ⟨gA, 0, none⟩)) ∧ wz.cell? ⟨wB2, 0, none⟩ = some (.pointer (some ⟨gB, 0, none⟩))) := hid (fun wz hz => by
      have h1 := (HD.out.a.below hz).wm.cells
      have h2 := (HD.out.b.below hz).wm.cells
      rw [HD.out.a.hv, hxA, hgA] at h1
      rw [HD.out.b.hv, hxB, hgB] at h2
      exact ⟨h1.2.1, h2.2.1, h1.1, h2.1⟩)
    obtain ⟨z1, hz1⟩ : ∃ z, stX S1.H S1.X 4 = z := ⟨_, rfl⟩
    obtain ⟨z2, hz2⟩ : ∃ z, stX S2.H S2.X 4 = z := ⟨_, rfl⟩
    have Hzz : Hid (z1.a = z2.a + sk ∧ z1.b = z2.b + sk ∧ z2.a ≤ 100000000000 ∧ z2.b ≤ 100000000000) := hid (by
      have h1 := HD.out.b.xn.st
      have h2 := HD.out.b.xn.rf
      rw [← hz1, ← hz2]
      refine ⟨?_, ?_, ?_, ?_⟩
      · show S1.X.st = S2.X.st + sk
        rw [HP.out.2.1]; rfl
      · show S1.X.rf = S2.X.rf + sk
        rw [HP.out.2.1]; rfl
      · show S2.X.st ≤ _
        omega
      · show S2.X.rf ≤ _
        omega)
    have HStA : Hid (∀ {xs : List XBk} (wz : World), FB wr xs wz → Calls Try.prog 17 #[.pointer (some ⟨xA, 0, none⟩)] wz fun e w' => e = .returned (.agg (stC z1).toArray) ∧ FB wr xs w') := hid (fun wz hz => by
      have := stats_walk (HD.out.a.below hz.bel).wm.mm (HD.out.a.xn.xb (by omega)) HD.out.a.hi.rl
      rw [hxA, hz1] at this
      exact this.mono (fun e w' ⟨q1, q2⟩ => ⟨q1, hz.below q2⟩))
    have HStB : Hid (∀ {xs : List XBk} (wz : World), FB wr xs wz → Calls Try.prog 17 #[.pointer (some ⟨xB, 0, none⟩)] wz fun e w' => e = .returned (.agg (stC z2).toArray) ∧ FB wr xs w') := hid (fun wz hz => by
      have := stats_walk (HD.out.b.below hz.bel).wm.mm (HD.out.b.xn.xb (by omega)) HD.out.b.hi.rl
      rw [hxB, hz2] at this
      exact this.mono (fun e w' ⟨q1, q2⟩ => ⟨q1, hz.below q2⟩))
    have HTb : Hid (∀ wz, Below wr.heap.size wr wz → Calls Try.prog 16 #[.pointer (some ⟨wB1, 0, none⟩), .pointer (some ⟨wB2, 0, none⟩)] wz fun e w' => e = .returned (.bool true) ∧ Below wz.heap.size wz w') := hid (fun wz hz => (HD.out.below hz).tables (k := sk) (by omega) (by omega) HP.out.1 HP.out.2.1 HP.out.2.2)
    have HHp : Hid (∀ wz, Below wr.heap.size wr wz → Calls Try.prog 18 #[.pointer (some ⟨gA, 0, none⟩), .pointer (some ⟨gB, 0, none⟩)] wz fun e w' => e = .returned (.bool true) ∧ Below wz.heap.size wz w') := hid (fun wz hz => by
      have hB := (HD.out.b.below hz).wm.mm.hm
      rw [← HP.out.1] at hB
      have := sameHeap_walk (HD.out.a.below hz).wm.mm.hm hB HD.out.a.hi.rl HD.out.a.hi.wf
      rw [hgA, hgB] at this
      exact this)
    have HBel := hid HD.out.a.bel
    clear hxA hxB hgA hgB hz1 hz2
    go_upto_region 15 with fail
    go_cut [9, 10] from 43 to 52 (fun v12 v13 wc => ∃ p q, v12 = .pointer (some ⟨p, 0, none⟩) ∧ v13 = .pointer (some ⟨q, 0, none⟩) ∧ Hid (Below wr.heap.size wr wc ∧ Blk wc p 34 (stC z1) ∧ Blk wc q 34 (stC z2)))
    case first =>
      as_aux_lemma =>
      refine wp_region_tree (fun wz => Below wr.heap.size wr wz) 12 [0, 1, 2, 3, 5, 6, 7, 8] (.tri 4 (.tri 9 (.two 10 (.one 11 .leaf) 11 (.one 10 .leaf)) 10 (.two 9 (.one 11 .leaf) 11 (.one 9 .leaf)) 11 (.two 9 (.one 10 .leaf) 10 (.one 9 .leaf))) 10 (.two 4 (.two 9 (.one 11 .leaf) 11 (.one 9 .leaf)) 11 (.one 4 (.one 9 .leaf))) 11 (.two 4 (.two 9 (.one 10 .leaf) 10 (.one 9 .leaf)) 10 (.one 4 (.one 9 .leaf)))) rfl (by kernel_rfl) (by kernel_rfl) (fun d _ _ _ _ h => by cases d <;> exact h) (Drew.below ⟨1, rfl⟩ _) ?_
      apply Exists.intro
      refine ⟨?_, ?_⟩
      · intro W hW
        have d0 : ∀ x, (W x).cell? ⟨wB1, 1, none⟩ = some (.pointer (some ⟨xA, 0, none⟩)) := fun x => (HC.out _ (hW x)).1
        have d1 : ∀ x, (W x).cell? ⟨wB2, 1, none⟩ = some (.pointer (some ⟨xB, 0, none⟩)) := fun x => (HC.out _ (hW x)).2.1
        clear hW
        simp only [List.take, opsAt, List.drop, List.cons_append, List.nil_append]
        repeat (go_big_quiet_step (fail))
        exact rfl
      have HF : Hid (FB wr [] wr.drew) := hid (FB.start (Drew.below ⟨1, rfl⟩ _))
      generalize wr.drew = wd at HF ⊢
      clear HC HTb HHp HD HP
      simp only [wpTr, opsAt, List.take, List.drop, List.cons_append, List.nil_append]
      refine ⟨?_, ?_, ?_⟩
      · go_wp2_with fail
        refine (HStA.out _ HF.out).mono ?_
        rintro y wA ⟨rfl, hFn⟩
        have HFA := hid hFn
        clear hFn
        go_wp2_with fail
        refine ⟨HFA.out.bel, ?_⟩
        simp only [wpTr, opsAt, List.take, List.drop, List.cons_append, List.nil_append]
        refine ⟨?_, ?_, ?_⟩
        · go_wp2_with fail
          refine (HStB.out _ HFA.out).mono ?_
          rintro y wAB ⟨rfl, hFn⟩
          have HFAB := hid hFn
          clear hFn
          go_wp2_with fail
          refine ⟨HFAB.out.bel, ?_⟩
          simp only [wpTr, opsAt, List.take, List.drop, List.cons_append, List.nil_append]
          refine ⟨?_, ?_⟩
          · have HFABC := hid (HFAB.out.alloc (stC stZ) 34)
            go_wp2_with fail
            obtain ⟨pABC, hp⟩ : ∃ p, wAB.heap.size = p := ⟨_, rfl⟩
            obtain ⟨wABC, hwn⟩ : ∃ x, wAB.alloc (.cells (stC stZ).toArray 34) = x := ⟨_, rfl⟩
            rw [hp, hwn] at HFABC
            rw [show wAB.alloc (.cells #[.int .u64 0, .int .u64 0, .int .u64 0, .int .u64 0, .int .i64 0, .int .i64 0] 34) = wABC from hwn, hp]
            clear hwn hp
            refine ⟨HFABC.out.bel, ?_⟩
            simp only [wpTr, opsAt, List.take, List.drop, List.cons_append, List.nil_append]
            have HFABCD := hid (HFABC.out.alloc (stC stZ) 34)
            go_wp2_with fail
            obtain ⟨pABCD, hp⟩ : ∃ p, wABC.heap.size = p := ⟨_, rfl⟩
            obtain ⟨wABCD, hwn⟩ : ∃ x, wABC.alloc (.cells (stC stZ).toArray 34) = x := ⟨_, rfl⟩
            rw [hp, hwn] at HFABCD
            rw [show wABC.alloc (.cells #[.int .u64 0, .int .u64 0, .int .u64 0, .int .u64 0, .int .i64 0, .int .i64 0] 34) = wABCD from hwn, hp]
            clear hwn hp
            refine ⟨HFABCD.out.bel, ?_⟩
            simp only [wpTr, QN]
            go_wp2_with (first | (refine wpList_store_blk rfl 34 _ _ rfl pABC rfl (stC z1) rfl (HFABCD.out.bl (pABC, 34, stC stZ) (by simp)).1 rfl ISt.out (st_one _) ?_; intro wS1 HBs1 HUs1) | (refine wpList_store_blk rfl 34 _ _ rfl pABCD rfl (stC z2) rfl ((HFABCD.out.set (i := 1) rfl HBs1.out HUs1.out).bl (pABCD, 34, stC stZ) (by simp)).1 rfl ISt.out (st_one _) ?_; intro wS2 HBs2 HUs2))
            have HFx := (HFABCD.out.set (i := 1) rfl HBs1.out HUs1.out).set (i := 0) rfl HBs2.out HUs2.out
            go_meet
            case rel => exact ⟨pABC, pABCD, rfl, rfl, hid ⟨HFx.bel, (HFx.bl (pABC, 34, stC z1) (by simp)).1, (HFx.bl (pABCD, 34, stC z2) (by simp)).1⟩⟩
          · have HFABD := hid (HFAB.out.alloc (stC stZ) 34)
            go_wp2_with fail
            obtain ⟨pABD, hp⟩ : ∃ p, wAB.heap.size = p := ⟨_, rfl⟩
            obtain ⟨wABD, hwn⟩ : ∃ x, wAB.alloc (.cells (stC stZ).toArray 34) = x := ⟨_, rfl⟩
            rw [hp, hwn] at HFABD
            rw [show wAB.alloc (.cells #[.int .u64 0, .int .u64 0, .int .u64 0, .int .u64 0, .int .i64 0, .int .i64 0] 34) = wABD from hwn, hp]
            clear hwn hp
            refine ⟨HFABD.out.bel, ?_⟩
            simp only [wpTr, opsAt, List.take, List.drop, List.cons_append, List.nil_append]
            have HFABDC := hid (HFABD.out.alloc (stC stZ) 34)
            go_wp2_with fail
            obtain ⟨pABDC, hp⟩ : ∃ p, wABD.heap.size = p := ⟨_, rfl⟩
            obtain ⟨wABDC, hwn⟩ : ∃ x, wABD.alloc (.cells (stC stZ).toArray 34) = x := ⟨_, rfl⟩
            rw [hp, hwn] at HFABDC
            rw [show wABD.alloc (.cells #[.int .u64 0, .int .u64 0, .int .u64 0, .int .u64 0, .int .i64 0, .int .i64 0] 34) = wABDC from hwn, hp]
            clear hwn hp
            refine ⟨HFABDC.out.bel, ?_⟩
            simp only [wpTr, QN]
            go_wp2_with (first | (refine wpList_store_blk rfl 34 _ _ rfl pABDC rfl (stC z1) rfl (HFABDC.out.bl (pABDC, 34, stC stZ) (by simp)).1 rfl ISt.out (st_one _) ?_; intro wS1 HBs1 HUs1) | (refine wpList_store_blk rfl 34 _ _ rfl pABD rfl (stC z2) rfl ((HFABDC.out.set (i := 0) rfl HBs1.out HUs1.out).bl (pABD, 34, stC stZ) (by simp)).1 rfl ISt.out (st_one _) ?_; intro wS2 HBs2 HUs2))
            have HFx := (HFABDC.out.set (i := 0) rfl HBs1.out HUs1.out).set (i := 1) rfl HBs2.out HUs2.out
            go_meet
            case rel => exact ⟨pABDC, pABD, rfl, rfl, hid ⟨HFx.bel, (HFx.bl (pABDC, 34, stC z1) (by simp)).1, (HFx.bl (pABD, 34, stC z2) (by simp)).1⟩⟩
        · have HFAC := hid (HFA.out.alloc (stC stZ) 34)
          go_wp2_with fail
          obtain ⟨pAC, hp⟩ : ∃ p, wA.heap.size = p := ⟨_, rfl⟩
          obtain ⟨wAC, hwn⟩ : ∃ x, wA.alloc (.cells (stC stZ).toArray 34) = x := ⟨_, rfl⟩
          rw [hp, hwn] at HFAC
          rw [show wA.alloc (.cells #[.int .u64 0, .int .u64 0, .int .u64 0, .int .u64 0, .int .i64 0, .int .i64 0] 34) = wAC from hwn, hp]
          clear hwn hp
          refine ⟨HFAC.out.bel, ?_⟩
          simp only [wpTr, opsAt, List.take, List.drop, List.cons_append, List.nil_append]
          refine ⟨?_, ?_⟩
          · go_wp2_with fail
            refine (HStB.out _ HFAC.out).mono ?_
            rintro y wACB ⟨rfl, hFn⟩
            have HFACB := hid hFn
            clear hFn
            go_wp2_with fail
            refine ⟨HFACB.out.bel, ?_⟩
            simp only [wpTr, opsAt, List.take, List.drop, List.cons_append, List.nil_append]
            have HFACBD := hid (HFACB.out.alloc (stC stZ) 34)
            go_wp2_with fail
            obtain ⟨pACBD, hp⟩ : ∃ p, wACB.heap.size = p := ⟨_, rfl⟩
            obtain ⟨wACBD, hwn⟩ : ∃ x, wACB.alloc (.cells (stC stZ).toArray 34) = x := ⟨_, rfl⟩
            rw [hp, hwn] at HFACBD
            rw [show wACB.alloc (.cells #[.int .u64 0, .int .u64 0, .int .u64 0, .int .u64 0, .int .i64 0, .int .i64 0] 34) = wACBD from hwn, hp]
            clear hwn hp
            refine ⟨HFACBD.out.bel, ?_⟩
            simp only [wpTr, QN]
            go_wp2_with (first | (refine wpList_store_blk rfl 34 _ _ rfl pAC rfl (stC z1) rfl (HFACBD.out.bl (pAC, 34, stC stZ) (by simp)).1 rfl ISt.out (st_one _) ?_; intro wS1 HBs1 HUs1) | (refine wpList_store_blk rfl 34 _ _ rfl pACBD rfl (stC z2) rfl ((HFACBD.out.set (i := 1) rfl HBs1.out HUs1.out).bl (pACBD, 34, stC stZ) (by simp)).1 rfl ISt.out (st_one _) ?_; intro wS2 HBs2 HUs2))
            have HFx := (HFACBD.out.set (i := 1) rfl HBs1.out HUs1.out).set (i := 0) rfl HBs2.out HUs2.out
            go_meet
            case rel => exact ⟨pAC, pACBD, rfl, rfl, hid ⟨HFx.bel, (HFx.bl (pAC, 34, stC z1) (by simp)).1, (HFx.bl (pACBD, 34, stC z2) (by simp)).1⟩⟩
          · have HFACD := hid (HFAC.out.alloc (stC stZ) 34)
            go_wp2_with fail
            obtain ⟨pACD, hp⟩ : ∃ p, wAC.heap.size = p := ⟨_, rfl⟩
            obtain ⟨wACD, hwn⟩ : ∃ x, wAC.alloc (.cells (stC stZ).toArray 34) = x := ⟨_, rfl⟩
            rw [hp, hwn] at HFACD
            rw [show wAC.alloc (.cells #[.int .u64 0, .int .u64 0, .int .u64 0, .int .u64 0, .int .i64 0, .int .i64 0] 34) = wACD from hwn, hp]
            clear hwn hp
            refine ⟨HFACD.out.bel, ?_⟩
            simp only [wpTr, opsAt, List.take, List.drop, List.cons_append, List.nil_append]
            go_wp2_with fail
            refine (HStB.out _ HFACD.out).mono ?_
            rintro y wACDB ⟨rfl, hFn⟩
            have HFACDB := hid hFn
            clear hFn
            go_wp2_with fail
            refine ⟨HFACDB.out.bel, ?_⟩
            simp only [wpTr, QN]
            go_wp2_with (first | (refine wpList_store_blk rfl 34 _ _ rfl pAC rfl (stC z1) rfl (HFACDB.out.bl (pAC, 34, stC stZ) (by simp)).1 rfl ISt.out (st_one _) ?_; intro wS1 HBs1 HUs1) | (refine wpList_store_blk rfl 34 _ _ rfl pACD rfl (stC z2) rfl ((HFACDB.out.set (i := 1) rfl HBs1.out HUs1.out).bl (pACD, 34, stC stZ) (by simp)).1 rfl ISt.out (st_one _) ?_; intro wS2 HBs2 HUs2))
            have HFx := (HFACDB.out.set (i := 1) rfl HBs1.out HUs1.out).set (i := 0) rfl HBs2.out HUs2.out
            go_meet
            case rel => exact ⟨pAC, pACD, rfl, rfl, hid ⟨HFx.bel, (HFx.bl (pAC, 34, stC z1) (by simp)).1, (HFx.bl (pACD, 34, stC z2) (by simp)).1⟩⟩
        · have HFAD := hid (HFA.out.alloc (stC stZ) 34)
          go_wp2_with fail
          obtain ⟨pAD, hp⟩ : ∃ p, wA.heap.size = p := ⟨_, rfl⟩
          obtain ⟨wAD, hwn⟩ : ∃ x, wA.alloc (.cells (stC stZ).toArray 34) = x := ⟨_, rfl⟩
          rw [hp, hwn] at HFAD
          rw [show wA.alloc (.cells #[.int .u64 0, .int .u64 0, .int .u64 0, .int .u64 0, .int .i64 0, .int .i64 0] 34) = wAD from hwn, hp]
          clear hwn hp
          refine ⟨HFAD.out.bel, ?_⟩
          simp only [wpTr, opsAt, List.take, List.drop, List.cons_append, List.nil_append]
          refine ⟨?_, ?_⟩
          · go_wp2_with fail
            refine (HStB.out _ HFAD.out).mono ?_
            rintro y wADB ⟨rfl, hFn⟩
            have HFADB := hid hFn
            clear hFn
            go_wp2_with fail
            refine ⟨HFADB.out.bel, ?_⟩
            simp only [wpTr, opsAt, List.take, List.drop, List.cons_append, List.nil_append]
            have HFADBC := hid (HFADB.out.alloc (stC stZ) 34)
            go_wp2_with fail
            obtain ⟨pADBC, hp⟩ : ∃ p, wADB.heap.size = p := ⟨_, rfl⟩
            obtain ⟨wADBC, hwn⟩ : ∃ x, wADB.alloc (.cells (stC stZ).toArray 34) = x := ⟨_, rfl⟩
            rw [hp, hwn] at HFADBC
            rw [show wADB.alloc (.cells #[.int .u64 0, .int .u64 0, .int .u64 0, .int .u64 0, .int .i64 0, .int .i64 0] 34) = wADBC from hwn, hp]
            clear hwn hp
            refine ⟨HFADBC.out.bel, ?_⟩
            simp only [wpTr, QN]
            go_wp2_with (first | (refine wpList_store_blk rfl 34 _ _ rfl pADBC rfl (stC z1) rfl (HFADBC.out.bl (pADBC, 34, stC stZ) (by simp)).1 rfl ISt.out (st_one _) ?_; intro wS1 HBs1 HUs1) | (refine wpList_store_blk rfl 34 _ _ rfl pAD rfl (stC z2) rfl ((HFADBC.out.set (i := 0) rfl HBs1.out HUs1.out).bl (pAD, 34, stC stZ) (by simp)).1 rfl ISt.out (st_one _) ?_; intro wS2 HBs2 HUs2))
            have HFx := (HFADBC.out.set (i := 0) rfl HBs1.out HUs1.out).set (i := 1) rfl HBs2.out HUs2.out
            go_meet
            case rel => exact ⟨pADBC, pAD, rfl, rfl, hid ⟨HFx.bel, (HFx.bl (pADBC, 34, stC z1) (by simp)).1, (HFx.bl (pAD, 34, stC z2) (by simp)).1⟩⟩
          · have HFADC := hid (HFAD.out.alloc (stC stZ) 34)
            go_wp2_with fail
            obtain ⟨pADC, hp⟩ : ∃ p, wAD.heap.size = p := ⟨_, rfl⟩
            obtain ⟨wADC, hwn⟩ : ∃ x, wAD.alloc (.cells (stC stZ).toArray 34) = x := ⟨_, rfl⟩
            rw [hp, hwn] at HFADC
            rw [show wAD.alloc (.cells #[.int .u64 0, .int .u64 0, .int .u64 0, .int .u64 0, .int .i64 0, .int .i64 0] 34) = wADC from hwn, hp]
            clear hwn hp
            refine ⟨HFADC.out.bel, ?_⟩
            simp only [wpTr, opsAt, List.take, List.drop, List.cons_append, List.nil_append]
            go_wp2_with fail
            refine (HStB.out _ HFADC.out).mono ?_
            rintro y wADCB ⟨rfl, hFn⟩
            have HFADCB := hid hFn
            clear hFn
            go_wp2_with fail
            refine ⟨HFADCB.out.bel, ?_⟩
            simp only [wpTr, QN]
            go_wp2_with (first | (refine wpList_store_blk rfl 34 _ _ rfl pADC rfl (stC z1) rfl (HFADCB.out.bl (pADC, 34, stC stZ) (by simp)).1 rfl ISt.out (st_one _) ?_; intro wS1 HBs1 HUs1) | (refine wpList_store_blk rfl 34 _ _ rfl pAD rfl (stC z2) rfl ((HFADCB.out.set (i := 0) rfl HBs1.out HUs1.out).bl (pAD, 34, stC stZ) (by simp)).1 rfl ISt.out (st_one _) ?_; intro wS2 HBs2 HUs2))
            have HFx := (HFADCB.out.set (i := 0) rfl HBs1.out HUs1.out).set (i := 1) rfl HBs2.out HUs2.out
            go_meet
            case rel => exact ⟨pADC, pAD, rfl, rfl, hid ⟨HFx.bel, (HFx.bl (pADC, 34, stC z1) (by simp)).1, (HFx.bl (pAD, 34, stC z2) (by simp)).1⟩⟩
      · have HFC := hid (HF.out.alloc (stC stZ) 34)
        go_wp2_with fail
        obtain ⟨pC, hp⟩ : ∃ p, wd.heap.size = p := ⟨_, rfl⟩
        obtain ⟨wC, hwn⟩ : ∃ x, wd.alloc (.cells (stC stZ).toArray 34) = x := ⟨_, rfl⟩
        rw [hp, hwn] at HFC
        rw [show wd.alloc (.cells #[.int .u64 0, .int .u64 0, .int .u64 0, .int .u64 0, .int .i64 0, .int .i64 0] 34) = wC from hwn, hp]
        clear hwn hp
        refine ⟨HFC.out.bel, ?_⟩
        simp only [wpTr, opsAt, List.take, List.drop, List.cons_append, List.nil_append]
        refine ⟨?_, ?_⟩
        · go_wp2_with fail
          refine (HStA.out _ HFC.out).mono ?_
          rintro y wCA ⟨rfl, hFn⟩
          have HFCA := hid hFn
          clear hFn
          go_wp2_with fail
          refine ⟨HFCA.out.bel, ?_⟩
          simp only [wpTr, opsAt, List.take, List.drop, List.cons_append, List.nil_append]
          refine ⟨?_, ?_⟩
          · go_wp2_with fail
            refine (HStB.out _ HFCA.out).mono ?_
            rintro y wCAB ⟨rfl, hFn⟩
            have HFCAB := hid hFn
            clear hFn
            go_wp2_with fail
            refine ⟨HFCAB.out.bel, ?_⟩
            simp only [wpTr, opsAt, List.take, List.drop, List.cons_append, List.nil_append]
            have HFCABD := hid (HFCAB.out.alloc (stC stZ) 34)
            go_wp2_with fail
            obtain ⟨pCABD, hp⟩ : ∃ p, wCAB.heap.size = p := ⟨_, rfl⟩
            obtain ⟨wCABD, hwn⟩ : ∃ x, wCAB.alloc (.cells (stC stZ).toArray 34) = x := ⟨_, rfl⟩
            rw [hp, hwn] at HFCABD
            rw [show wCAB.alloc (.cells #[.int .u64 0, .int .u64 0, .int .u64 0, .int .u64 0, .int .i64 0, .int .i64 0] 34) = wCABD from hwn, hp]
            clear hwn hp
            refine ⟨HFCABD.out.bel, ?_⟩
            simp only [wpTr, QN]
            go_wp2_with (first | (refine wpList_store_blk rfl 34 _ _ rfl pC rfl (stC z1) rfl (HFCABD.out.bl (pC, 34, stC stZ) (by simp)).1 rfl ISt.out (st_one _) ?_; intro wS1 HBs1 HUs1) | (refine wpList_store_blk rfl 34 _ _ rfl pCABD rfl (stC z2) rfl ((HFCABD.out.set (i := 1) rfl HBs1.out HUs1.out).bl (pCABD, 34, stC stZ) (by simp)).1 rfl ISt.out (st_one _) ?_; intro wS2 HBs2 HUs2))
            have HFx := (HFCABD.out.set (i := 1) rfl HBs1.out HUs1.out).set (i := 0) rfl HBs2.out HUs2.out
            go_meet
            case rel => exact ⟨pC, pCABD, rfl, rfl, hid ⟨HFx.bel, (HFx.bl (pC, 34, stC z1) (by simp)).1, (HFx.bl (pCABD, 34, stC z2) (by simp)).1⟩⟩
          · have HFCAD := hid (HFCA.out.alloc (stC stZ) 34)
            go_wp2_with fail
            obtain ⟨pCAD, hp⟩ : ∃ p, wCA.heap.size = p := ⟨_, rfl⟩
            obtain ⟨wCAD, hwn⟩ : ∃ x, wCA.alloc (.cells (stC stZ).toArray 34) = x := ⟨_, rfl⟩
            rw [hp, hwn] at HFCAD
            rw [show wCA.alloc (.cells #[.int .u64 0, .int .u64 0, .int .u64 0, .int .u64 0, .int .i64 0, .int .i64 0] 34) = wCAD from hwn, hp]
            clear hwn hp
            refine ⟨HFCAD.out.bel, ?_⟩
            simp only [wpTr, opsAt, List.take, List.drop, List.cons_append, List.nil_append]
            go_wp2_with fail
            refine (HStB.out _ HFCAD.out).mono ?_
            rintro y wCADB ⟨rfl, hFn⟩
            have HFCADB := hid hFn
            clear hFn
            go_wp2_with fail
            refine ⟨HFCADB.out.bel, ?_⟩
            simp only [wpTr, QN]
            go_wp2_with (first | (refine wpList_store_blk rfl 34 _ _ rfl pC rfl (stC z1) rfl (HFCADB.out.bl (pC, 34, stC stZ) (by simp)).1 rfl ISt.out (st_one _) ?_; intro wS1 HBs1 HUs1) | (refine wpList_store_blk rfl 34 _ _ rfl pCAD rfl (stC z2) rfl ((HFCADB.out.set (i := 1) rfl HBs1.out HUs1.out).bl (pCAD, 34, stC stZ) (by simp)).1 rfl ISt.out (st_one _) ?_; intro wS2 HBs2 HUs2))
            have HFx := (HFCADB.out.set (i := 1) rfl HBs1.out HUs1.out).set (i := 0) rfl HBs2.out HUs2.out
            go_meet
            case rel => exact ⟨pC, pCAD, rfl, rfl, hid ⟨HFx.bel, (HFx.bl (pC, 34, stC z1) (by simp)).1, (HFx.bl (pCAD, 34, stC z2) (by simp)).1⟩⟩
        · have HFCD := hid (HFC.out.alloc (stC stZ) 34)
          go_wp2_with fail
          obtain ⟨pCD, hp⟩ : ∃ p, wC.heap.size = p := ⟨_, rfl⟩
          obtain ⟨wCD, hwn⟩ : ∃ x, wC.alloc (.cells (stC stZ).toArray 34) = x := ⟨_, rfl⟩
          rw [hp, hwn] at HFCD
          rw [show wC.alloc (.cells #[.int .u64 0, .int .u64 0, .int .u64 0, .int .u64 0, .int .i64 0, .int .i64 0] 34) = wCD from hwn, hp]
          clear hwn hp
          refine ⟨HFCD.out.bel, ?_⟩
          simp only [wpTr, opsAt, List.take, List.drop, List.cons_append, List.nil_append]
          go_wp2_with fail
          refine (HStA.out _ HFCD.out).mono ?_
          rintro y wCDA ⟨rfl, hFn⟩
          have HFCDA := hid hFn
          clear hFn
          go_wp2_with fail
          refine ⟨HFCDA.out.bel, ?_⟩
          simp only [wpTr, opsAt, List.take, List.drop, List.cons_append, List.nil_append]
          go_wp2_with fail
          refine (HStB.out _ HFCDA.out).mono ?_
          rintro y wCDAB ⟨rfl, hFn⟩
          have HFCDAB := hid hFn
          clear hFn
          go_wp2_with fail
          refine ⟨HFCDAB.out.bel, ?_⟩
          simp only [wpTr, QN]
          go_wp2_with (first | (refine wpList_store_blk rfl 34 _ _ rfl pC rfl (stC z1) rfl (HFCDAB.out.bl (pC, 34, stC stZ) (by simp)).1 rfl ISt.out (st_one _) ?_; intro wS1 HBs1 HUs1) | (refine wpList_store_blk rfl 34 _ _ rfl pCD rfl (stC z2) rfl ((HFCDAB.out.set (i := 1) rfl HBs1.out HUs1.out).bl (pCD, 34, stC stZ) (by simp)).1 rfl ISt.out (st_one _) ?_; intro wS2 HBs2 HUs2))
          have HFx := (HFCDAB.out.set (i := 1) rfl HBs1.out HUs1.out).set (i := 0) rfl HBs2.out HUs2.out
          go_meet
          case rel => exact ⟨pC, pCD, rfl, rfl, hid ⟨HFx.bel, (HFx.bl (pC, 34, stC z1) (by simp)).1, (HFx.bl (pCD, 34, stC z2) (by simp)).1⟩⟩
      · have HFD := hid (HF.out.alloc (stC stZ) 34)
        go_wp2_with fail
        obtain ⟨pD, hp⟩ : ∃ p, wd.heap.size = p := ⟨_, rfl⟩
        obtain ⟨wD, hwn⟩ : ∃ x, wd.alloc (.cells (stC stZ).toArray 34) = x := ⟨_, rfl⟩
        rw [hp, hwn] at HFD
        rw [show wd.alloc (.cells #[.int .u64 0, .int .u64 0, .int .u64 0, .int .u64 0, .int .i64 0, .int .i64 0] 34) = wD from hwn, hp]
        clear hwn hp
        refine ⟨HFD.out.bel, ?_⟩
        simp only [wpTr, opsAt, List.take, List.drop, List.cons_append, List.nil_append]
        refine ⟨?_, ?_⟩
        · go_wp2_with fail
          refine (HStA.out _ HFD.out).mono ?_
          rintro y wDA ⟨rfl, hFn⟩
          have HFDA := hid hFn
          clear hFn
          go_wp2_with fail
          refine ⟨HFDA.out.bel, ?_⟩
          simp only [wpTr, opsAt, List.take, List.drop, List.cons_append, List.nil_append]
          refine ⟨?_, ?_⟩
          · go_wp2_with fail
            refine (HStB.out _ HFDA.out).mono ?_
            rintro y wDAB ⟨rfl, hFn⟩
            have HFDAB := hid hFn
            clear hFn
            go_wp2_with fail
            refine ⟨HFDAB.out.bel, ?_⟩
            simp only [wpTr, opsAt, List.take, List.drop, List.cons_append, List.nil_append]
            have HFDABC := hid (HFDAB.out.alloc (stC stZ) 34)
            go_wp2_with fail
            obtain ⟨pDABC, hp⟩ : ∃ p, wDAB.heap.size = p := ⟨_, rfl⟩
            obtain ⟨wDABC, hwn⟩ : ∃ x, wDAB.alloc (.cells (stC stZ).toArray 34) = x := ⟨_, rfl⟩
            rw [hp, hwn] at HFDABC
            rw [show wDAB.alloc (.cells #[.int .u64 0, .int .u64 0, .int .u64 0, .int .u64 0, .int .i64 0, .int .i64 0] 34) = wDABC from hwn, hp]
            clear hwn hp
            refine ⟨HFDABC.out.bel, ?_⟩
            simp only [wpTr, QN]
            go_wp2_with (first | (refine wpList_store_blk rfl 34 _ _ rfl pDABC rfl (stC z1) rfl (HFDABC.out.bl (pDABC, 34, stC stZ) (by simp)).1 rfl ISt.out (st_one _) ?_; intro wS1 HBs1 HUs1) | (refine wpList_store_blk rfl 34 _ _ rfl pD rfl (stC z2) rfl ((HFDABC.out.set (i := 0) rfl HBs1.out HUs1.out).bl (pD, 34, stC stZ) (by simp)).1 rfl ISt.out (st_one _) ?_; intro wS2 HBs2 HUs2))
            have HFx := (HFDABC.out.set (i := 0) rfl HBs1.out HUs1.out).set (i := 1) rfl HBs2.out HUs2.out
            go_meet
            case rel => exact ⟨pDABC, pD, rfl, rfl, hid ⟨HFx.bel, (HFx.bl (pDABC, 34, stC z1) (by simp)).1, (HFx.bl (pD, 34, stC z2) (by simp)).1⟩⟩
          · have HFDAC := hid (HFDA.out.alloc (stC stZ) 34)
            go_wp2_with fail
            obtain ⟨pDAC, hp⟩ : ∃ p, wDA.heap.size = p := ⟨_, rfl⟩
            obtain ⟨wDAC, hwn⟩ : ∃ x, wDA.alloc (.cells (stC stZ).toArray 34) = x := ⟨_, rfl⟩
            rw [hp, hwn] at HFDAC
            rw [show wDA.alloc (.cells #[.int .u64 0, .int .u64 0, .int .u64 0, .int .u64 0, .int .i64 0, .int .i64 0] 34) = wDAC from hwn, hp]
            clear hwn hp
            refine ⟨HFDAC.out.bel, ?_⟩
            simp only [wpTr, opsAt, List.take, List.drop, List.cons_append, List.nil_append]
            go_wp2_with fail
            refine (HStB.out _ HFDAC.out).mono ?_
            rintro y wDACB ⟨rfl, hFn⟩
            have HFDACB := hid hFn
            clear hFn
            go_wp2_with fail
            refine ⟨HFDACB.out.bel, ?_⟩
            simp only [wpTr, QN]
            go_wp2_with (first | (refine wpList_store_blk rfl 34 _ _ rfl pDAC rfl (stC z1) rfl (HFDACB.out.bl (pDAC, 34, stC stZ) (by simp)).1 rfl ISt.out (st_one _) ?_; intro wS1 HBs1 HUs1) | (refine wpList_store_blk rfl 34 _ _ rfl pD rfl (stC z2) rfl ((HFDACB.out.set (i := 0) rfl HBs1.out HUs1.out).bl (pD, 34, stC stZ) (by simp)).1 rfl ISt.out (st_one _) ?_; intro wS2 HBs2 HUs2))
            have HFx := (HFDACB.out.set (i := 0) rfl HBs1.out HUs1.out).set (i := 1) rfl HBs2.out HUs2.out
            go_meet
            case rel => exact ⟨pDAC, pD, rfl, rfl, hid ⟨HFx.bel, (HFx.bl (pDAC, 34, stC z1) (by simp)).1, (HFx.bl (pD, 34, stC z2) (by simp)).1⟩⟩
        · have HFDC := hid (HFD.out.alloc (stC stZ) 34)
          go_wp2_with fail
          obtain ⟨pDC, hp⟩ : ∃ p, wD.heap.size = p := ⟨_, rfl⟩
          obtain ⟨wDC, hwn⟩ : ∃ x, wD.alloc (.cells (stC stZ).toArray 34) = x := ⟨_, rfl⟩
          rw [hp, hwn] at HFDC
          rw [show wD.alloc (.cells #[.int .u64 0, .int .u64 0, .int .u64 0, .int .u64 0, .int .i64 0, .int .i64 0] 34) = wDC from hwn, hp]
          clear hwn hp
          refine ⟨HFDC.out.bel, ?_⟩
          simp only [wpTr, opsAt, List.take, List.drop, List.cons_append, List.nil_append]
          go_wp2_with fail
          refine (HStA.out _ HFDC.out).mono ?_
          rintro y wDCA ⟨rfl, hFn⟩
          have HFDCA := hid hFn
          clear hFn
          go_wp2_with fail
          refine ⟨HFDCA.out.bel, ?_⟩
          simp only [wpTr, opsAt, List.take, List.drop, List.cons_append, List.nil_append]
          go_wp2_with fail
          refine (HStB.out _ HFDCA.out).mono ?_
          rintro y wDCAB ⟨rfl, hFn⟩
          have HFDCAB := hid hFn
          clear hFn
          go_wp2_with fail
          refine ⟨HFDCAB.out.bel, ?_⟩
          simp only [wpTr, QN]
          go_wp2_with (first | (refine wpList_store_blk rfl 34 _ _ rfl pDC rfl (stC z1) rfl (HFDCAB.out.bl (pDC, 34, stC stZ) (by simp)).1 rfl ISt.out (st_one _) ?_; intro wS1 HBs1 HUs1) | (refine wpList_store_blk rfl 34 _ _ rfl pD rfl (stC z2) rfl ((HFDCAB.out.set (i := 0) rfl HBs1.out HUs1.out).bl (pD, 34, stC stZ) (by simp)).1 rfl ISt.out (st_one _) ?_; intro wS2 HBs2 HUs2))
          have HFx := (HFDCAB.out.set (i := 0) rfl HBs1.out HUs1.out).set (i := 1) rfl HBs2.out HUs2.out
          go_meet
          case rel => exact ⟨pDC, pD, rfl, rfl, hid ⟨HFx.bel, (HFx.bl (pDC, 34, stC z1) (by simp)).1, (HFx.bl (pD, 34, stC z2) (by simp)).1⟩⟩
    case rest =>
    obtain ⟨p, q, rfl, rfl, HF⟩ := hcut
    as_aux_lemma =>
    obtain ⟨a1, ha1⟩ : ∃ x, z1.a = x := ⟨_, rfl⟩
    obtain ⟨a2, ha2⟩ : ∃ x, z2.a = x := ⟨_, rfl⟩
    obtain ⟨b1, hb1⟩ : ∃ x, z1.b = x := ⟨_, rfl⟩
    obtain ⟨b2, hb2⟩ : ∃ x, z2.b = x := ⟨_, rfl⟩
    have hzz := Hzz.out
    rw [ha1, ha2, hb1, hb2] at hzz
    have HQ : Hid (∀ wz, Below wc.heap.size wc wz → wz.cell? ⟨p, 0, none⟩ = some (.int .u64 (a1 : Int)) ∧ wz.cell? ⟨p, 1, none⟩ = some (.int .u64 (b1 : Int)) ∧ wz.cell? ⟨q, 0, none⟩ = some (.int .u64 (a2 : Int)) ∧ wz.cell? ⟨q, 1, none⟩ = some (.int .u64 (b2 : Int)) ∧ Below wr.heap.size wr wz) := hid (fun wz hz => by
      have h1 := HF.out.2.1.below hz
      have h2 := HF.out.2.2.below hz
      refine ⟨?_, ?_, ?_, ?_, HF.out.1.trans (hz.mono HF.out.1.size)⟩
      · rw [← ha1]; exact h1.cell 0
      · rw [← hb1]; exact h1.cell 1
      · rw [← ha2]; exact h2.cell 0
      · rw [← hb2]; exact h2.cell 1)
    have e1 : ((a1 : Int) == (a2 : Int) + (sk : Int)) = true := by simp; omega
    have e2 : ((b1 : Int) == (b2 : Int) + (sk : Int)) = true := by simp; omega
    have g1 : (a2 : Int) ≤ 100000000000 := by omega
    have g2 : (b2 : Int) ≤ 100000000000 := by omega
    have g3 : (sk : Int) ≤ 100000000000 := by omega
    clear ha1 ha2 hb1 hb2 hzz Hzz HStA HStB HD HP
    go_upto_region 16 with fail
    refine wp_region_tree (fun wz => Below wc.heap.size wc wz) 32 [0, 1, 2, 3, 4, 5, 6, 7, 8, 9, 10, 11, 12, 13, 14, 15, 16, 17, 18] (.one 19 (.lit [20, 21, 22, 23, 24, 25, 26, 27, 28, 29] (.one 30 (.lit [31] .leaf)))) rfl (by kernel_rfl) (by kernel_rfl) (fun d _ _ _ _ h => by cases d <;> exact h) (Drew.below ⟨1, rfl⟩ _) ?_
    apply Exists.intro
    refine ⟨?_, ?_⟩
    · intro W hW
      have d0 : ∀ x, (W x).cell? ⟨p, 0, none⟩ = some (.int .u64 (a1 : Int)) := fun x => (HQ.out _ (hW x)).1
      have d1 : ∀ x, (W x).cell? ⟨p, 1, none⟩ = some (.int .u64 (b1 : Int)) := fun x => (HQ.out _ (hW x)).2.1
      have d2 : ∀ x, (W x).cell? ⟨q, 0, none⟩ = some (.int .u64 (a2 : Int)) := fun x => (HQ.out _ (hW x)).2.2.1
      have d3 : ∀ x, (W x).cell? ⟨q, 1, none⟩ = some (.int .u64 (b2 : Int)) := fun x => (HQ.out _ (hW x)).2.2.2.1
      clear hW
      simp only [List.take, opsAt, List.drop, List.cons_append, List.nil_append]
      repeat (go_big_quiet_step (fail))
      exact rfl
    have HB0 : Hid (Below wc.heap.size wc wc.drew) := hid (Drew.below ⟨1, rfl⟩ _)
    generalize wc.drew = wd at HB0 ⊢
    try simp only [wpTr, opsAt, List.take, List.drop, List.cons_append, List.nil_append]
    go_wp2_with fail
    refine (HTb.out _ (HQ.out _ HB0.out).2.2.2.2).mono ?_
    rintro y w7 ⟨rfl, hb7⟩
    have HB7 : Hid (Below wc.heap.size wc w7) := hid (HB0.out.trans (hb7.mono HB0.out.size))
    clear hb7
    go_wp2_with fail
    refine ⟨HB7.out, ?_⟩
    try simp only [wpTr, opsAt, List.take, List.drop, List.cons_append, List.nil_append]
    apply Exists.intro
    refine ⟨?_, ?_⟩
    · intro W hW
      have d0 : ∀ x, (W x).cell? ⟨wB1, 0, none⟩ = some (.pointer (some ⟨gA, 0, none⟩)) := fun x => (HC.out _ (HQ.out _ (hW x)).2.2.2.2).2.2.1
      have d1 : ∀ x, (W x).cell? ⟨wB2, 0, none⟩ = some (.pointer (some ⟨gB, 0, none⟩)) := fun x => (HC.out _ (HQ.out _ (hW x)).2.2.2.2).2.2.2
      clear hW
      repeat (go_big_quiet_step (fail))
      exact rfl
    try simp only [wpTr, opsAt, List.take, List.drop, List.cons_append, List.nil_append]
    go_wp2_with fail
    refine (HHp.out _ (HQ.out _ HB7.out).2.2.2.2).mono ?_
    rintro y w8 ⟨rfl, hb8⟩
    have HB8 : Hid (Below wc.heap.size wc w8) := hid (HB7.out.trans (hb8.mono HB7.out.size))
    clear hb8
    go_wp2_with fail
    refine ⟨HB8.out, ?_⟩
    try simp only [wpTr, opsAt, List.take, List.drop, List.cons_append, List.nil_append]
    apply Exists.intro
    refine ⟨?_, ?_⟩
    · intro W hW
      clear hW
      repeat (go_big_quiet_step (fail))
      exact rfl
    try simp only [wpTr, QN, List.take, List.drop, opsAt, List.cons_append, List.nil_append]
    go_wp2
    go_ret
    exact ⟨rfl, HBel.out.trans ((HQ.out _ HB8.out).2.2.2.2.mono HBel.out.size)⟩
end Go.Proofs.Qxb6500889a
