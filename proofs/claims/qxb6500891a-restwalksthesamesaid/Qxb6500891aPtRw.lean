/- RestWalksTheSame: the law. -/
import Derived.Test.Qxb6500891aPtSt
import Derived.Test.Qxb6500891aPtSz
namespace Go.Proofs.Qxb6500891a
open Go.RowKit
set_option linter.unusedSimpArgs false
set_option linter.unusedVariables false

set_option maxRecDepth 1000000 in
theorem zero_real (w : World) : (zeroValue 78).run Try.prog w = .ok (.agg zWalk.toArray) w := by kernel_rfl
/-- The walk inside the law. -/
structure Lq (w0 : World) (pW : Nat) (S : WS) (w : World) : Prop where
  bel : Below w0.heap.size w0 w
  a : ∃ cs, Blk w pW 78 cs ∧ WOk cs S
  inv : WInv S
theorem Lq.below {w0 w w' : World} {pW : Nat} {S : WS} (h : Lq w0 pW S w) (hb : Below w.heap.size w w') : Lq w0 pW S w' := ⟨h.bel.trans (hb.mono h.bel.size), by obtain ⟨cs, h1, h2⟩ := h.a; exact ⟨cs, h1.below hb, h2⟩, h.inv⟩
set_option maxRecDepth 1000000 in
set_option maxHeartbeats 8000000 in
theorem restLaw_walk (a : Option Addr) (n c : Nat) (l : List POp) (w : World) (hs : Script w a n c l) :
    Calls Try.prog 7 #[.slice a n c] w fun e w' => e = .returned (.bool true) ∧ Below w.heap.size w w' := by
  have HS := hid hs
  have hl := hs.1.1
  clear hs
  go_enter Try.func7, Try.ntmps7
  go_wp2_with fail
  refine (small_walk a n c l _ HS.out).mono ?_
  rintro e w' ⟨r, rfl, rfl, hr⟩
  cases r with
  | false =>
    go_wp2
    go_ret
    exact ⟨rfl, Below.refl _ _⟩
  | true =>
    have hsm := hr rfl
    clear hr
    obtain ⟨pW, hpW⟩ : ∃ pW, w'.heap.size = pW := ⟨_, rfl⟩
    have hwW : w'.heap.size ≤ pW := by omega
    have hz := zero_walk
    have hzr := zero_real
    have hzl := zWalk_len
    have hzk := zwalk_ok
    have HZ0 : Hid (Blk (w'.alloc (.cells zWalk.toArray 78)) pW 78 zWalk) := hid (by have := Blk.new w' zWalk 78; rw [hpW] at this; exact this)
    have HLw : Hid (Lq w' pW ⟨[], 0, 0, false, false⟩ (w'.alloc (.cells zWalk.toArray 78))) := hid ⟨nbel w' _, ⟨_, HZ0.out, hzk⟩, zwalk_inv⟩
    generalize zWalk = Z at *
    have HZk := hid hzk
    clear hzk HZ0
    go_wp2_with fail
    generalize w'.alloc (.cells Z.toArray 78) = w1 at HLw ⊢
    go_loopw [20] (fun i wr => ∃ (k : Nat) (S : WS), k ≤ n ∧ i = .int .i64 k ∧ Hid (Lq w' pW S wr)) (fun i _ => n - (intOf i).toNat)
    case atStart => exact ⟨0, _, by omega, rfl, HLw⟩
    case round =>
      clear HLw
      obtain ⟨k, S, hk, rfl, HL⟩ := hrel
      by_cases hlt : k < n
      rotate_left
      · as_aux_lemma =>
        have dk : decide ((k : Int) < (n : Int)) = false := decide_eq_false (by omega)
        clear hz hzr
        go_wp2
        go_ret
        exact ⟨rfl, by have h := HL.out.bel; first | exact h | (rw [hpW] at h; exact h)⟩
      obtain ⟨o, ho, hok, b, off, rfl, hb, c0, c1, c2⟩ := (HS.out.below HL.out.bel).at hlt
      have HOk := hid (HS.out.2 o (List.mem_of_getElem? ho))
      obtain ⟨kind, aa, an, ac, la, ba, bn, bc, lb⟩ := o
      dsimp only at c0 c1 c2
      have dk : decide ((k : Int) < (n : Int)) = true := decide_eq_true (by omega)
      have i1 : (k : Int) < (n : Int) := by omega
      clear ho hok
      go_upto_region 7 with fail
      obtain ⟨pO, hpO⟩ : ∃ pO, wr.heap.size = pO := ⟨_, rfl⟩
      have hbo : Blk (wr.alloc (.cells #[Value.int .u8 kind, Value.slice aa an ac, Value.slice ba bn bc] 71)) pO 71 [Value.int .u8 kind, Value.slice aa an ac, Value.slice ba bn bc] := by have := Blk.new wr [Value.int .u8 kind, Value.slice aa an ac, Value.slice ba bn bc] 71; rw [hpO] at this; exact this
      have HBo := hid hbo
      have HL2 : Hid (Lq w' pW S (wr.alloc (.cells #[Value.int .u8 kind, Value.slice aa an ac, Value.slice ba bn bc] 71))) := hid (HL.out.below (nbel wr _))
      generalize wr.alloc (.cells #[Value.int .u8 kind, Value.slice aa an ac, Value.slice ba bn bc] 71) = w2 at HBo HL2 ⊢
      clear hbo c0 c1 c2 HL hb
      have o0 : w2.cell? ⟨pO, 0, none⟩ = some (.int .u8 kind) := HBo.out.cell 0
      have o1 : w2.cell? ⟨pO, 1, none⟩ = some (.slice aa an ac) := HBo.out.cell 1
      have o2 : w2.cell? ⟨pO, 2, none⟩ = some (.slice ba bn bc) := HBo.out.cell 2
      obtain ⟨cs, hcs, hks⟩ := HL2.out.a
      have hne : ∀ (x : Option Addr) (xn xc : Nat) (xl : List Nat), ByteRow w' x xn xc xl → 0 < xn → ∀ b off, x = some ⟨b, off, none⟩ → b ≠ pW := fun x xn xc xl hrow h b2 off2 e => by
        obtain ⟨_, _, _, b3, off3, e3, hb3, _⟩ := hrow.get h
        rw [e] at e3
        cases e3
        omega
      have HSt := hid (step_walk pW 78 cs S w2 hcs hks HL2.out.inv kind HOk.out.k0 HOk.out.k1 aa an ac la ba bn bc lb (HOk.out.ra.below HL2.out.bel) (HOk.out.rb.below HL2.out.bel) (hne _ _ _ _ HOk.out.ra) (hne _ _ _ _ HOk.out.rb))
      clear hcs hks hne
      go_wp2_with fail
      refine (HSt.out).mono ?_
      rintro e w3 ⟨⟨R, rfl⟩, hpe⟩
      obtain ⟨ds, S3, hds, hks3, hi3⟩ := hpe.a
      have HL3 : Hid (Lq w' pW S3 w3) := hid ⟨HL2.out.bel.trans (hpe.upd.below hwW HL2.out.bel.size), ⟨ds, hds, hks3⟩, hi3⟩
      clear hds hks3 hi3 hpe HSt HL2 HBo o0 o1 o2
      obtain ⟨cs, hcs, hks⟩ := HL3.out.a
      have hd9 := HL3.out.inv.d9
      have HRs := hid (rest_walk pW 78 cs S3 w3 hcs hks hd9)
      have HRB := hid (rest_bytes hks hd9)
      have HRz := hid (rest_zero hks)
      have HRg := hid (fun (h : S3.lv ≠ []) hl => rest_good hks (fun e => h ((topN_empty hks).1 e)) hl)
      have HTe := hid (topN_empty hks)
      have HDn : Hid (∀ w4, Below w3.heap.size w3 w4 → Calls Try.prog 33 #[.pointer (some ⟨pW, 0, none⟩)] w4 fun e w'' => e = .returned (.bool S3.lv.isEmpty) ∧ w'' = w4) := hid (fun w4 hb => done_walk pW 78 cs S3 w4 (hcs.below hb) hks)
      have hpW3 := hcs.lt
      have HCs := hid hcs
      have HKs := hid hks
      clear hcs hks
      go_wp2_with fail
      refine (HRs.out).mono ?_
      rintro e w4 ⟨v4, rfl, ha4⟩
      obtain ⟨ax, nx, cx, rfl, hnx, hrow⟩ := ha4.row HRB.out.1 HRB.out.2
      have HBe4 := hid ha4.bel
      have HL4 := hid (HL3.out.below ha4.bel)
      have HRow := hid hrow
      have Hnx := hid hnx
      have hnx63 : nx ≤ 140737488351232 := by rw [hnx]; exact HRB.out.1
      clear ha4 hrow hnx HRs HRB
      by_cases hz0 : nx = 0
      · as_aux_lemma =>
        have hemp : S3.lv.isEmpty = true := by rw [HRz.out.1 (by rw [← Hnx.out]; exact hz0)]; rfl
        have HDx := hid (HDn.out _ HBe4.out)
        rw [hemp] at HDx
        subst hz0
        clear hemp hz hzr
        go_wp2_with fail
        refine (HDx.out).mono ?_
        rintro e w5 ⟨rfl, rfl⟩
        go_wp2
        exact ⟨⟨k + 1, S3, by omega, by go_num, HL4⟩, by simp [intOf]; omega⟩
      have dz : ((nx : Int) == 0) = false := by simp; omega
      by_cases h255 : 255 < nx
      · as_aux_lemma =>
        have d1 : decide (255 < (nx : Int)) = true := decide_eq_true (by omega)
        clear hz hzr
        go_wp2
        exact ⟨⟨k + 1, S3, by omega, by go_num, HL4⟩, by simp [intOf]; omega⟩
      as_aux_lemma =>
      have d1 : decide (255 < (nx : Int)) = false := decide_eq_false (by omega)
      have hlne : S3.lv ≠ [] := fun e => hz0 (by rw [Hnx.out]; exact HRz.out.2 e)
      have hgood := HRg.out hlne (by rw [← Hnx.out]; omega)
      have Hgood := hid hgood
      have HTne : Hid (topN S3.lv 0 ≠ []) := hid (fun e => hlne (HTe.out.1 e))
      clear hgood hlne HRg HRz HTe
      obtain ⟨pF, hpF⟩ : ∃ pF, w4.heap.size = pF := ⟨_, rfl⟩
      have hW4 : pW < pF := by have := HBe4.out.size; omega
      have HZF : Hid (Blk (w4.alloc (.cells Z.toArray 68)) pF 68 Z) := hid (by have := Blk.new w4 Z 68; rw [hpF] at this; exact this)
      have HL5 := hid (HL4.out.below (nbel w4 (.cells Z.toArray 68)))
      have HRow5 := hid (HRow.out.below (nbel w4 (.cells Z.toArray 68)))
      have HagF : Hid (0 < nx → ∀ b off, ax = some ⟨b, off, none⟩ → b ≠ pF) := hid (fun h b2 off2 e => by
        obtain ⟨_, _, _, b3, off3, e3, hb3, _⟩ := HRow.out.get h
        rw [e] at e3
        cases e3
        omega)
      go_upto_region 14 with fail
      generalize w4.alloc (.cells Z.toArray 68) = w5 at HZF HL5 HRow5 ⊢
      have HSt := hid (start_walk pF 68 Z _ w5 HZF.out HZk.out ax nx cx (restB S3.lv) HRow5.out HagF.out)
      go_wp2_with fail
      refine (HSt.out).mono ?_
      rintro e w6 hp6
      obtain ⟨⟨ab, code, dF, SF, rfl, hd6, hk6, hl6, hs6, ht6, hc6⟩, hu6⟩ := hp6
      have hinvF := start_inv hl6 hs6 ht6 hc6
      have hcase : code = 0 ∧ ab = false ∧ Sim S3 SF := by
        rcases hc6 with ⟨_, _, h⟩ | ⟨h1, h2, o, sp, hp, h3⟩
        · exact absurd Hgood.out.1 h
        · exact ⟨h1, by rw [← h2]; exact Hgood.out.2, Sim.fresh HKs.out HTne.out hp h3⟩
      obtain ⟨rfl, rfl, hsim⟩ := hcase
      have HSim := hid hsim
      have hFw : w'.heap.size ≤ pF := by have := HL4.out.bel.size; omega
      have hL6 : Lq w' pW S3 w6 := by
        obtain ⟨q1, q2, q3⟩ := HL5.out.a
        exact ⟨HL5.out.bel.trans (hu6.below hFw HL5.out.bel.size), ⟨q1, q2.upd hu6 (by omega), q3⟩, HL5.out.inv⟩
      have HL6 := hid hL6
      have HF6 := hid (And.intro hd6 (And.intro hk6 hinvF))
      clear HSt hd6 hk6 hl6 hs6 ht6 hc6 hu6 hsim hinvF hL6 HL5 HRow5 HagF HZF HRow HL4 HDn HCs HKs HBe4
      obtain ⟨cA, hcA, hkA⟩ := HL6.out.a
      obtain ⟨pC, hpC⟩ : ∃ pC, w6.heap.size = pC := ⟨_, rfl⟩
      have HZC : Hid (Blk (w6.alloc (.cells Z.toArray 68)) pC 68 Z) := hid (by have := Blk.new w6 Z 68; rw [hpC] at this; exact this)
      have LA : Hid (Z.length = cA.length) := hid (by rw [hkA.len, hzl])
      have IA : Hid ((Try.prog.info? 68).map (·.size) = some cA.length) := hid (by rw [hkA.len]; exact info_walk)
      have OA := hid hkA.one
      have HcA := hid hcA
      have HkA := hid hkA
      have hFC : pF < pC := by have := HF6.out.1.lt; omega
      clear hcA hkA
      go_wp2_with (first
        | (refine wpList_load_blk rfl 68 _ rfl pW rfl cA HcA.out _ Try.underlying68 rfl IA.out ?_)
        | (refine wpList_store_blk rfl 68 _ _ rfl pC rfl cA rfl HZC.out LA.out IA.out OA.out ?_; intro w7 HB7 HU7))
      have hbe7 : Below w6.heap.size w6 w7 := (nbel w6 _).trans (HU7.out.below (by omega) (by simp))
      have HL7 := hid (HL6.out.below hbe7)
      have hw6 : w'.heap.size ≤ w6.heap.size := HL6.out.bel.size
      have HSw : Hid (Sw w' S3 SF pC pF w7) := hid ⟨HL7.out.bel, ⟨cA, HB7.out, HkA.out⟩, ⟨dF, HF6.out.1.below hbe7, HF6.out.2.1⟩, HL6.out.inv, HF6.out.2.2⟩
      have hCw : w'.heap.size ≤ pC := by omega
      have hWC : pW ≠ pC := by omega
      have hWF : pW ≠ pF := by omega
      have hCF : pC ≠ pF := by omega
      clear hbe7 HB7 HU7 HZC LA IA OA HcA HkA HF6 HL6 hz hzr
      try simp only [Act.put, List.setIfInBounds_toArray, List.set_cons_succ, List.set_cons_zero]
      go_loopw [12] (fun v wr => ∃ SA SB, Hid (Sw w' SA SB pC pF wr) ∧ Hid (Sim SA SB) ∧ Hid (Lq w' pW S3 wr)) (fun _ wr => 1153 - cellN wr pC)
      case atStart => exact ⟨S3, SF, HSw, HSim, HL7⟩
      case round =>
        clear HSw HSim HL7
        obtain ⟨SA, SB, HS1, HSim, HL⟩ := hrel
        obtain ⟨cA, hcA, hkA⟩ := HS1.out.a
        obtain ⟨cB, hcB, hkB⟩ := HS1.out.b
        have hst : SA.steps ≤ 1152 := by have := HS1.out.ia.sum; have := HS1.out.ia.l8; omega
        have hcn := cellN_eq hcA hkA
        obtain ⟨C, b, A2, GA, hNA⟩ := next_view hkA HS1.out.ia
        obtain ⟨D, d, B2, GB, hNB⟩ := next_view hkB HS1.out.ib
        obtain ⟨hCD, hbd, hst2, hsim2⟩ := Sim.next hkA hkB HSim.out GA.v GB.v
        have HGA := hid GA
        have HGBi := hid GB.inv
        rw [← hCD, ← hbd] at hNB
        have HNA := hid (hNA pC 68 cA wr hcA hkA).1
        have HNB : Hid (∀ w4, Sw w' A2 SB pC pF w4 → Calls Try.prog 37 #[.pointer (some ⟨pF, 0, none⟩)] w4 (fun e w'' => NextP pF 68 C b B2 w4 e w'')) := hid (fun w4 h => by obtain ⟨cs, h1, h2⟩ := h.b; exact (hNB pF _ cs w4 h1 h2).1)
        have hC37 := GA.len
        have hneq := GA.neq
        have I2 : Hid ((Try.prog.info? 40).map (·.size) = some C.length) := hid (by rw [hC37]; exact info_comp)
        have L2 : Hid ((compC [] 0 0 false false).length = C.length) := hid (by rw [hC37]; rfl)
        have Hcn := hid hcn
        have Hst2 := hid hst2
        have Hsim2 := hid hsim2
        clear hcA hkA hcB hkB hNA hNB GA GB hcn hCD hbd hst2 hsim2 D d
        go_wp2_with fail
        refine (HNA.out).mono ?_
        rintro e w2 hp2
        obtain ⟨rfl, hu2, hd2⟩ := hp2
        have HS2 := hid (HS1.out.nextA hu2 hd2 HGA.out.inv hCw (by omega))
        have HLb : Hid (Lq w' pW S3 w2) := hid (by
          obtain ⟨q1, q2, q3⟩ := HL.out.a
          exact ⟨HL.out.bel.trans (hu2.below hCw HL.out.bel.size), ⟨q1, q2.upd hu2 hWC, q3⟩, HL.out.inv⟩)
        have HSm2 : Hid (Sim A2 B2) := hid (Hsim2.out (by obtain ⟨q1, _, q3⟩ := hd2; exact ⟨q1, q3⟩))
        clear hu2 hd2 HNA HL Hsim2 HSim
        obtain ⟨q, hq⟩ : ∃ q, w2.heap.size = q := ⟨_, rfl⟩
        have hbn := Blk.new w2 (compC [] 0 0 false false) 40
        rw [hq] at hbn
        have HBn := hid hbn
        clear hbn
        go_upto_region 19 with (refine wpList_store_blk rfl 40 _ _ rfl q rfl C rfl HBn.out L2.out I2.out HGA.out.one ?_; intro w3 HB3 HU3)
        have hqA : pC < q := by obtain ⟨_, h, _⟩ := HS2.out.a; have := h.lt; omega
        have hqB : pF < q := by obtain ⟨_, h, _⟩ := HS2.out.b; have := h.lt; omega
        have hbe3 : Below w2.heap.size w2 w3 := (nbel w2 _).trans (HU3.out.below (by omega) (by simp))
        have HS3 := hid (HS2.out.below hbe3)
        have HL3 := hid (HLb.out.below hbe3)
        clear HU3 HBn HS2 hbe3 HLb
        go_wp2_with fail
        refine (HNB.out _ HS3.out).mono ?_
        rintro e w4 hp4
        obtain ⟨rfl, hu4, hd4⟩ := hp4
        have HS4 := hid (HS3.out.nextB hu4 hd4 HGBi.out hFw hCF)
        have HL4 : Hid (Lq w' pW S3 w4) := hid (by
          obtain ⟨q1, q2, q3⟩ := HL3.out.a
          exact ⟨HL3.out.bel.trans (hu4.below hFw HL3.out.bel.size), ⟨q1, q2.upd hu4 hWF, q3⟩, HL3.out.inv⟩)
        have HB4 := hid (HB3.out.upd hu4 (by omega))
        clear hu4 hd4 HNB HS3 HB3 HL3
        obtain ⟨r, hr⟩ : ∃ r, w4.heap.size = r := ⟨_, rfl⟩
        have hbn := Blk.new w4 (compC [] 0 0 false false) 40
        rw [hr] at hbn
        have HBn := hid hbn
        clear hbn
        go_upto_region 20 with (refine wpList_store_blk rfl 40 _ _ rfl r rfl C rfl HBn.out L2.out I2.out HGA.out.one ?_; intro w5 HB5 HU5)
        have hqr : q < r := by have := HB4.out.lt; omega
        have hbe5 : Below w4.heap.size w4 w5 := (nbel w4 _).trans (HU5.out.below (by omega) (by simp))
        have HS5 := hid (HS4.out.below hbe5)
        have HL5 := hid (HL4.out.below hbe5)
        have HBq := hid ((HB4.out.alloc _).upd HU5.out (by omega))
        clear HU5 HBn HS4 HB4 hbe5 HL4
        cases b with
        | false =>
          as_aux_lemma =>
          go_wp2_with (first
            | (refine wpList_load_blk_w rfl 40 _ rfl q rfl C HBq.out _ Try.underlying40 rfl I2.out ?_)
            | (refine wpList_load_blk_w rfl 40 _ rfl r rfl C HB5.out _ Try.underlying40 rfl I2.out ?_))
          exact ⟨⟨k + 1, S3, by omega, by go_num, HL5⟩, by simp [intOf]; omega⟩
        | true =>
          as_aux_lemma =>
          have hs2 := Hst2.out rfl
          have Hce : Hid (cellN w5 pC = SA.steps + 1) := hid (by obtain ⟨_, h1, h2⟩ := HS5.out.a; rw [cellN_eq h1 h2, hs2])
          clear hs2
          go_wp2_with (first
            | (refine wpList_load_blk_w rfl 40 _ rfl q rfl C HBq.out _ Try.underlying40 rfl I2.out ?_)
            | (refine wpList_load_blk_w rfl 40 _ rfl r rfl C HB5.out _ Try.underlying40 rfl I2.out ?_))
          exact ⟨⟨A2, B2, HS5, HSm2, HL5⟩, by rw [Hce.out, Hcn.out]; omega⟩
end Go.Proofs.Qxb6500891a
