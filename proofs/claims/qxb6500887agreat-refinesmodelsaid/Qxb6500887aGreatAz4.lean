/- NextNonzero, NextZero for tables of any width (written by tools/mk_az4.py). -/
import Derived.Test.Qxb6500887aGreatAzFlg
namespace Go.Proofs.Qxb6500887aGreat
open Go.RowKit
set_option linter.unusedSimpArgs false
set_option linter.unusedVariables false

/-- Nothing found below word q. -/
def Pr (P : Nat → Bool) (per lo hi q : Nat) : Prop := ∀ i, lo ≤ i → i < hi → i < per * q → P i = false
section
variable {wd per len lo hi fw lw fm lm : Nat} {X : Nat → Nat}
theorem Win.start (h : Win wd per len lo hi fw lw fm lm) (P : Nat → Bool) (hp : 1 ≤ per) : Pr P per lo hi fw := by
  rcases h.cs with ⟨rfl, _⟩ | ⟨h1, rfl, _⟩
  · intro i h1 h2; omega
  · exact nx_start hp
theorem Win.fin (h : Win wd per len lo hi fw lw fm lm) {P : Nat → Bool} (hp : 1 ≤ per) (hq : Pr P per lo hi (lw + 1)) : Nx P lo hi (-1) := by
  rcases h.cs with ⟨rfl, _⟩ | ⟨h1, _, rfl, _⟩
  · exact .inl ⟨rfl, fun i h1 h2 => by omega⟩
  · exact nx_end hp hq
theorem Win.nz (h : Win wd per len lo hi fw lw fm lm) (hw : Wd wd per) (hX : ∀ q, X q < 18446744073709551616) {q : Nat} (h1 : fw ≤ q) (h2 : q ≤ lw) (hq : Pr (nzP wd per X) per lo hi q) :
    (X q &&& mAt fw lw fm lm q = 0 → Pr (nzP wd per X) per lo hi (q + 1)) ∧ (X q &&& mAt fw lw fm lm q ≠ 0 → ∃ k, k < 64 ∧ Low (nzW wd (X q &&& mAt fw lw fm lm q)) k ∧ Nx (nzP wd per X) lo hi ((per * q + k / wd : Nat) : Int)) := by
  rcases h.cs with ⟨_, rfl, rfl⟩ | ⟨hlt, rfl, rfl, hm⟩
  · omega
  · rw [hm q]
    have hf := flg_nz (X := X) hw hlt h1 h2
    have hz : X q &&& mskW wd per lo hi q < 18446744073709551616 := Nat.lt_of_le_of_lt Nat.and_le_left (hX q)
    refine ⟨fun h0 => nx_step hw.mul.2.1 hq (hf.zero hw (by rw [h0]; unfold nzW; simp)), fun h0 => ?_⟩
    obtain ⟨k, hk, hl⟩ := exists_low (nzW_ne hw hz h0) (nzW_lt wd _)
    have hL := hf.low hw hk hl
    exact ⟨k, hk, hl, nx_find hw.mul.2.1 hq hL.1 hL.2.1 hL.2.2⟩
theorem Win.zr (h : Win wd per len lo hi fw lw fm lm) (hw : Wd wd per) {q : Nat} (h1 : fw ≤ q) (h2 : q ≤ lw) (hq : Pr (zrP wd per X) per lo hi q) :
    (((18446744073709551615 - nzW wd (X q)) &&& onW wd) &&& mAt fw lw fm lm q = 0 → Pr (zrP wd per X) per lo hi (q + 1)) ∧ (((18446744073709551615 - nzW wd (X q)) &&& onW wd) &&& mAt fw lw fm lm q ≠ 0 → ∃ k, k < 64 ∧ Low (((18446744073709551615 - nzW wd (X q)) &&& onW wd) &&& mAt fw lw fm lm q) k ∧ Nx (zrP wd per X) lo hi ((per * q + k / wd : Nat) : Int)) := by
  rcases h.cs with ⟨_, rfl, rfl⟩ | ⟨hlt, rfl, rfl, hm⟩
  · omega
  · rw [hm q]
    have hf := flg_zr (X := X) hw hlt h1 h2
    have hz : ((18446744073709551615 - nzW wd (X q)) &&& onW wd) &&& mskW wd per lo hi q < 18446744073709551616 := Nat.lt_of_le_of_lt Nat.and_le_left (Nat.lt_of_le_of_lt Nat.and_le_right (onW_lt wd))
    refine ⟨fun h0 => nx_step hw.mul.2.1 hq (hf.zero hw h0), fun h0 => ?_⟩
    obtain ⟨k, hk, hl⟩ := exists_low h0 hz
    have hL := hf.low hw hk hl
    exact ⟨k, hk, hl, nx_find hw.mul.2.1 hq hL.1 hL.2.1 hL.2.2⟩
end
/-- Inside a range operation: the table, the window in the block p. -/
structure RZ (w0 : World) (t b n wd per len : Nat) (X : Nat → Nat) (p fw lw fm lm : Nat) (w : World) : Prop where
  tb : TB t b n wd per len X w
  bel : Below w0.heap.size w0 w
  pk : Blk w p 222 [.int .i64 (fw : Int), .int .i64 (lw : Int), .int .u64 (fm : Int), .int .u64 (lm : Int)]
section
variable {t b n wd per len : Nat} {X : Nat → Nat} {w w0 w' : World}
theorem RZ.below {p fw lw fm lm : Nat} (h : RZ w0 t b n wd per len X p fw lw fm lm w) (hb : Below w.heap.size w w') : RZ w0 t b n wd per len X p fw lw fm lm w' := ⟨h.tb.below hb, h.bel.trans (hb.mono h.bel.size), h.pk.below hb⟩
theorem RZ.drew {p fw lw fm lm : Nat} (h : RZ w0 t b n wd per len X p fw lw fm lm w) (hb : Drew w w') : RZ w0 t b n wd per len X p fw lw fm lm w' := h.below (hb.below _)
theorem RZ.new {fw lw fm lm : Nat} (h : TB t b n wd per len X w) (hb : Below w0.heap.size w0 w) {p : Nat} (hp : w.heap.size = p) : RZ w0 t b n wd per len X p fw lw fm lm (w.alloc (.cells #[.int .i64 (fw : Int), .int .i64 (lw : Int), .int .u64 (fm : Int), .int .u64 (lm : Int)] 222)) := by
  have k1 := Blk.new w [.int .i64 (fw : Int), .int .i64 (lw : Int), .int .u64 (fm : Int), .int .u64 (lm : Int)] 222
  rw [hp] at k1
  have hb' : Below w.heap.size w (w.alloc (.cells #[.int .i64 (fw : Int), .int .i64 (lw : Int), .int .u64 (fm : Int), .int .u64 (lm : Int)] 222)) := (Below.refl _ w).alloc (Nat.le_refl _) _
  exact ⟨h.below hb', hb.trans (hb'.mono hb.size), k1⟩
theorem RZ.ps {p fw lw fm lm : Nat} (h : RZ w0 t b n wd per len X p fw lw fm lm w) : w.cell? ⟨p, 0, none⟩ = some (.int .i64 (fw : Int)) ∧ w.cell? ⟨p, 1, none⟩ = some (.int .i64 (lw : Int)) ∧ w.cell? ⟨p, 2, none⟩ = some (.int .u64 (fm : Int)) ∧ w.cell? ⟨p, 3, none⟩ = some (.int .u64 (lm : Int)) := ⟨h.pk.cell 0, h.pk.cell 1, h.pk.cell 2, h.pk.cell 3⟩
set_option maxRecDepth 100000 in
set_option maxHeartbeats 2000000 in
theorem TB.nextNonzero (h : TB t b n wd per len X w) (lo hi : Nat) (h1 : lo ≤ hi) (h2 : hi ≤ n) : Calls Tryz.prog 217 #[.pointer (some ⟨t, 0, none⟩), .int .i64 (lo : Int), .int .i64 (hi : Int)] w fun e w' => ∃ r : Int, e = .returned (.tuple #[.int .i64 r, .bool true]) ∧ Hid (Nx (nzP wd per X) lo hi r ∧ Below w.heap.size w w') := by
  have HT := hid h
  have HH := hid (h.hasRange lo hi h1 h2)
  obtain ⟨fw, lw, fm, lm, hW, hWc⟩ := h.window lo hi h1 h2
  have HW := hid hW
  have HWc := hid hWc
  have HMa := hid (fun (q : Nat) (wz : World) => maskAtG fw lw fm lm q hW.bfm hW.blm wz)
  have hwd := h.k.wd
  have HSt := hid (hW.start (nzP wd per X) hwd.mul.2.1)
  have HFi : Hid (Pr (nzP wd per X) per lo hi (lw + 1) → Nx (nzP wd per X) lo hi (-1)) := hid (hW.fin hwd.mul.2.1)
  have hle := hW.le
  have hlw := hW.small
  have hll := hW.lt
  have hsm := h.k.small
  have HL := hid h.lt
  have HWn := hid (fun q h1 h2 hq => hW.nz hwd HL.out (q := q) h1 h2 hq)
  have hmf := hW.bfm
  have Hwd := hid hwd
  clear h hW hWc hwd
  go_enter Tryz.func217, Tryz.ntmps217
  go_wp2_with fail
  refine HH.out.mono ?_
  rintro e w1 ⟨rfl, hw1⟩
  have hw1' := hw1.symm
  clear hw1
  subst hw1'
  go_wp2_with fail
  refine (HWc.out w HT.out).mono ?_
  rintro e w2 ⟨rfl, hb2⟩
  have HB2 := hid hb2
  clear hb2 HWc HH
  obtain ⟨p, hp⟩ : ∃ p, w2.heap.size = p := ⟨_, rfl⟩
  go_upto_region 4 with fail
  obtain ⟨w3, hw3⟩ : ∃ w3, w2.alloc (.cells #[.int .i64 (fw : Int), .int .i64 (lw : Int), .int .u64 (fm : Int), .int .u64 (lm : Int)] 222) = w3 := ⟨_, rfl⟩
  have HR3 : Hid (RZ w t b n wd per len X p fw lw fm lm w3) := hid (by
    rw [← hw3]
    exact RZ.new (HT.out.below HB2.out) HB2.out hp)
  (try simp only [hw3])
  clear hw3 hp HB2
  have c0 := HR3.out.ps.1
  go_upto_region 5 with fail
  clear c0
  go_loopw [9] (fun u wr => ∃ q : Nat, u = .int .i64 (q : Int) ∧ fw ≤ q ∧ q ≤ lw + 1 ∧ Hid (Pr (nzP wd per X) per lo hi q ∧ RZ w t b n wd per len X p fw lw fm lm wr)) (fun u _ => 40000 - (intOf u).toNat)
  case atStart => exact ⟨fw, rfl, Nat.le_refl _, hle, hid ⟨HSt.out, HR3.out⟩⟩
  case round =>
  clear HR3 HSt
  obtain ⟨q, rfl, hq1, hq2, HK⟩ := hrel
  have c1 := HK.out.2.ps.2.1
  by_cases hql : q ≤ lw
  rotate_left
  · as_aux_lemma =>
    have dq : decide ((q : Int) ≤ (lw : Int)) = false := decide_eq_false (by omega)
    have HF : Hid (Nx (nzP wd per X) lo hi (-1) ∧ Below w.heap.size w wr) := hid (by
      obtain rfl : q = lw + 1 := by omega
      exact ⟨HFi.out HK.out.1, HK.out.2.bel⟩)
    clear HK
    go_wp2
    refine bodyPost_ret (results_tmp2 Tryz.results217 _ _ _) rfl ?_
    exact ⟨-1, rfl, HF⟩
  as_aux_lemma =>
  have dq : decide ((q : Int) ≤ (lw : Int)) = true := decide_eq_true (by omega)
  have hlen := hll (by omega)
  have hq128 : (q : Int) < (len : Int) := by omega
  have hlen6 : len ≤ 32768 := hsm
  have HWx := hid (HWn.out q hq1 hql HK.out.1)
  have HMq := hid (HMa.out q)
  have hM := mAt_lt (lw := lw) (lm := lm) (fw := fw) (q := q) hmf
  obtain ⟨M, hMq⟩ : ∃ M, mAt fw lw fm lm q = M := ⟨_, rfl⟩
  rw [hMq] at HMq HWx hM
  have hx := HL.out q
  have HR := hid HK.out.2
  have hqlen : q < len := by omega
  have HZ : Hid (bits .and .u64 ((X q : Nat) : Int) (M : Int) = ((X q &&& M : Nat) : Int)) := hid (u64_and_nat hx hM)
  have hz : X q &&& M < 18446744073709551616 := Nat.lt_of_le_of_lt Nat.and_le_left hx
  have HCx : Hid (∀ wz, RZ w t b n wd per len X p fw lw fm lm wz → wz.cell? ⟨b, q, none⟩ = some (.int .u64 ((X q : Nat) : Int))) := hid (fun wz hz => hz.tb.word hqlen)
  generalize X q &&& M = z at HZ HWx hz
  have HNz := hid (fun (wz : World) (h4 : TB t b n wd per len X wz) => h4.nonzero z hz)
  generalize X q = x at *
  clear HK HWn HMa hMq HFi
  go_upto_region 7 with fail
  clear c1
  refine wp_region_heavy (fun wz => RZ w t b n wd per len X p fw lw fm lm wz) 12 [0, 1, 2, 3, 4, 5, 6, 7, 8] [9, 10, 11] rfl (by kernel_rfl) (by kernel_rfl) (fun d _ _ _ _ h => by cases d <;> exact h) (HR.out.drew ⟨1, rfl⟩) ?_
  apply Exists.intro
  refine ⟨?_, ?_⟩
  · intro W hW
    have t0 : ∀ u, (W u).cell? ⟨t, 0, none⟩ = some (.slice (some ⟨b, 0, none⟩) len len) := fun u => (hW u).tb.cells.1
    have x0 : ∀ u, (W u).cell? ⟨b, q, none⟩ = some (.int .u64 (x : Int)) := fun u => HCx.out _ (hW u)
    have p0 : ∀ u, (W u).cell? ⟨p, 0, none⟩ = some (.int .i64 (fw : Int)) := fun u => (hW u).ps.1
    have p1 : ∀ u, (W u).cell? ⟨p, 1, none⟩ = some (.int .i64 (lw : Int)) := fun u => (hW u).ps.2.1
    have p2 : ∀ u, (W u).cell? ⟨p, 2, none⟩ = some (.int .u64 (fm : Int)) := fun u => (hW u).ps.2.2.1
    have p3 : ∀ u, (W u).cell? ⟨p, 3, none⟩ = some (.int .u64 (lm : Int)) := fun u => (hW u).ps.2.2.2
    clear hW
    simp only [List.take, opsAt, List.drop, List.cons_append, List.nil_append]
    repeat (go_big_quiet_step (fail))
    exact rfl
  simp only [List.take, List.drop, opsAt, List.cons_append, List.nil_append, wpHv]
  have HRd : Hid (RZ w t b n wd per len X p fw lw fm lm wr.drew) := hid (HR.out.drew ⟨1, rfl⟩)
  generalize wr.drew = wd' at HRd ⊢
  clear HR
  go_wp2_with fail
  refine (HMq.out wd').mono ?_
  rintro e w5 ⟨rfl, hb5⟩
  have HR5 := hid (HRd.out.below hb5)
  clear hb5 HMq HRd
  have hand := HZ.out
  go_wp2_with fail
  refine ⟨HR5.out, ?_⟩
  go_wp2_with fail
  refine ⟨HR5.out, ?_⟩
  go_wp2_with fail
  refine ⟨HR5.out, ?_⟩
  simp only [QN]
  clear HZ HCx
  by_cases hz0 : z = 0
  · as_aux_lemma =>
    have dz : ((z : Int) == 0) = true := by simp [hz0]
    have HF := hid (HWx.out.1 hz0)
    clear hz0 HNz HWx
    go_wp2
    exact ⟨⟨q + 1, by go_num, by omega, by omega, hid ⟨HF.out, HR5.out⟩⟩, by simp [intOf]; omega⟩
  · as_aux_lemma =>
    have dz : ((z : Int) == 0) = false := by simp; omega
    obtain ⟨k, hk, hl, hN⟩ := HWx.out.2 hz0
    have HN := hid hN
    have HI := hid (fun (wz : World) (h4 : TB t b n wd per len X wz) => h4.indexOf q (nzW wd z) k (by omega) (nzW_lt wd z) hk hl)
    clear HWx hz0 hN hl
    generalize nzW wd z = y at HNz HI
    generalize per * q + k / wd = r at HI HN
    go_wp2_with fail
    refine (HNz.out _ HR5.out.tb).mono ?_
    rintro e w6 ⟨rfl, hw6⟩
    have hw6' := hw6.symm
    clear hw6
    subst hw6'
    go_wp2_with fail
    refine (HI.out _ HR5.out.tb).mono ?_
    rintro e w7 ⟨rfl, hd7⟩
    have HF : Hid (Below w.heap.size w w7) := hid (HR5.out.drew hd7).bel
    clear hd7 HR5
    go_wp2
    refine bodyPost_ret (results_tmp2 Tryz.results217 _ _ _) rfl ?_
    exact ⟨(r : Int), rfl, hid ⟨HN.out, HF.out⟩⟩
set_option maxRecDepth 100000 in
set_option maxHeartbeats 2000000 in
theorem TB.nextZero (h : TB t b n wd per len X w) (lo hi : Nat) (h1 : lo ≤ hi) (h2 : hi ≤ n) : Calls Tryz.prog 216 #[.pointer (some ⟨t, 0, none⟩), .int .i64 (lo : Int), .int .i64 (hi : Int)] w fun e w' => ∃ r : Int, e = .returned (.tuple #[.int .i64 r, .bool true]) ∧ Hid (Nx (zrP wd per X) lo hi r ∧ Below w.heap.size w w') := by
  have HT := hid h
  have HH := hid (h.hasRange lo hi h1 h2)
  obtain ⟨fw, lw, fm, lm, hW, hWc⟩ := h.window lo hi h1 h2
  have HW := hid hW
  have HWc := hid hWc
  have HMa := hid (fun (q : Nat) (wz : World) => maskAtG fw lw fm lm q hW.bfm hW.blm wz)
  have hwd := h.k.wd
  have HSt := hid (hW.start (zrP wd per X) hwd.mul.2.1)
  have HFi : Hid (Pr (zrP wd per X) per lo hi (lw + 1) → Nx (zrP wd per X) lo hi (-1)) := hid (hW.fin hwd.mul.2.1)
  have hle := hW.le
  have hlw := hW.small
  have hll := hW.lt
  have hsm := h.k.small
  have HL := hid h.lt
  have HWn := hid (fun q h1 h2 hq => hW.zr hwd (X := X) (q := q) h1 h2 hq)
  have hmf := hW.bfm
  have Hwd := hid hwd
  clear h hW hWc hwd
  go_enter Tryz.func216, Tryz.ntmps216
  go_wp2_with fail
  refine HH.out.mono ?_
  rintro e w1 ⟨rfl, hw1⟩
  have hw1' := hw1.symm
  clear hw1
  subst hw1'
  go_wp2_with fail
  refine (HWc.out w HT.out).mono ?_
  rintro e w2 ⟨rfl, hb2⟩
  have HB2 := hid hb2
  clear hb2 HWc HH
  obtain ⟨p, hp⟩ : ∃ p, w2.heap.size = p := ⟨_, rfl⟩
  go_upto_region 4 with fail
  obtain ⟨w3, hw3⟩ : ∃ w3, w2.alloc (.cells #[.int .i64 (fw : Int), .int .i64 (lw : Int), .int .u64 (fm : Int), .int .u64 (lm : Int)] 222) = w3 := ⟨_, rfl⟩
  have HR3 : Hid (RZ w t b n wd per len X p fw lw fm lm w3) := hid (by
    rw [← hw3]
    exact RZ.new (HT.out.below HB2.out) HB2.out hp)
  (try simp only [hw3])
  clear hw3 hp HB2
  have c0 := HR3.out.ps.1
  go_upto_region 5 with fail
  clear c0
  go_loopw [9] (fun u wr => ∃ q : Nat, u = .int .i64 (q : Int) ∧ fw ≤ q ∧ q ≤ lw + 1 ∧ Hid (Pr (zrP wd per X) per lo hi q ∧ RZ w t b n wd per len X p fw lw fm lm wr)) (fun u _ => 40000 - (intOf u).toNat)
  case atStart => exact ⟨fw, rfl, Nat.le_refl _, hle, hid ⟨HSt.out, HR3.out⟩⟩
  case round =>
  clear HR3 HSt
  obtain ⟨q, rfl, hq1, hq2, HK⟩ := hrel
  have c1 := HK.out.2.ps.2.1
  by_cases hql : q ≤ lw
  rotate_left
  · as_aux_lemma =>
    have dq : decide ((q : Int) ≤ (lw : Int)) = false := decide_eq_false (by omega)
    have HF : Hid (Nx (zrP wd per X) lo hi (-1) ∧ Below w.heap.size w wr) := hid (by
      obtain rfl : q = lw + 1 := by omega
      exact ⟨HFi.out HK.out.1, HK.out.2.bel⟩)
    clear HK
    go_wp2
    refine bodyPost_ret (results_tmp2 Tryz.results216 _ _ _) rfl ?_
    exact ⟨-1, rfl, HF⟩
  as_aux_lemma =>
  have dq : decide ((q : Int) ≤ (lw : Int)) = true := decide_eq_true (by omega)
  have hlen := hll (by omega)
  have hq128 : (q : Int) < (len : Int) := by omega
  have hlen6 : len ≤ 32768 := hsm
  have HWx := hid (HWn.out q hq1 hql HK.out.1)
  have HMq := hid (HMa.out q)
  have hM := mAt_lt (lw := lw) (lm := lm) (fw := fw) (q := q) hmf
  obtain ⟨M, hMq⟩ : ∃ M, mAt fw lw fm lm q = M := ⟨_, rfl⟩
  rw [hMq] at HMq HWx hM
  have hx := HL.out q
  have HR := hid HK.out.2
  have hqlen : q < len := by omega
  have HNz := hid (fun (wz : World) (h4 : TB t b n wd per len X wz) => h4.nonzero (X q) hx)
  have HCx : Hid (∀ wz, RZ w t b n wd per len X p fw lw fm lm wz → wz.cell? ⟨b, q, none⟩ = some (.int .u64 ((X q : Nat) : Int))) := hid (fun wz hz => hz.tb.word hqlen)
  have hy := nzW_lt wd (X q)
  generalize nzW wd (X q) = y at *
  generalize X q = x at *
  have ho := onW_lt wd
  have HX1 := hid (xor_F64 hy)
  have HA1 : Hid (bits .and .u64 ((18446744073709551615 - y : Nat) : Int) ((onW wd : Nat) : Int) = (((18446744073709551615 - y) &&& onW wd : Nat) : Int)) := hid (u64_and_nat (by omega) ho)
  have hz1 : (18446744073709551615 - y) &&& onW wd < 18446744073709551616 := Nat.lt_of_le_of_lt Nat.and_le_right ho
  generalize (18446744073709551615 - y) &&& onW wd = z1 at *
  have HZ : Hid (bits .and .u64 (z1 : Int) (M : Int) = ((z1 &&& M : Nat) : Int)) := hid (u64_and_nat hz1 hM)
  have hz : z1 &&& M < 18446744073709551616 := Nat.lt_of_le_of_lt Nat.and_le_left hz1
  generalize z1 &&& M = z at HZ HWx hz
  generalize 18446744073709551615 - y = y1 at *
  clear HK HWn HMa hMq HFi
  go_upto_region 7 with fail
  clear c1
  refine wp_region_heavy (fun wz => RZ w t b n wd per len X p fw lw fm lm wz) 20 [0, 1, 2, 3, 4, 5, 6, 7, 8, 9, 10, 11, 12, 13, 14, 15, 16] [17, 18, 19] rfl (by kernel_rfl) (by kernel_rfl) (fun d _ _ _ _ h => by cases d <;> exact h) (HR.out.drew ⟨1, rfl⟩) ?_
  apply Exists.intro
  refine ⟨?_, ?_⟩
  · intro W hW
    have t0 : ∀ u, (W u).cell? ⟨t, 0, none⟩ = some (.slice (some ⟨b, 0, none⟩) len len) := fun u => (hW u).tb.cells.1
    have t5 : ∀ u, (W u).cell? ⟨t, 5, none⟩ = some (.int .u64 ((onW wd : Nat) : Int)) := fun u => (hW u).tb.cells.2.2.2.2.2
    have x0 : ∀ u, (W u).cell? ⟨b, q, none⟩ = some (.int .u64 (x : Int)) := fun u => HCx.out _ (hW u)
    have p0 : ∀ u, (W u).cell? ⟨p, 0, none⟩ = some (.int .i64 (fw : Int)) := fun u => (hW u).ps.1
    have p1 : ∀ u, (W u).cell? ⟨p, 1, none⟩ = some (.int .i64 (lw : Int)) := fun u => (hW u).ps.2.1
    have p2 : ∀ u, (W u).cell? ⟨p, 2, none⟩ = some (.int .u64 (fm : Int)) := fun u => (hW u).ps.2.2.1
    have p3 : ∀ u, (W u).cell? ⟨p, 3, none⟩ = some (.int .u64 (lm : Int)) := fun u => (hW u).ps.2.2.2
    have HNw := hid (fun u => HNz.out (W u) (hW u).tb)
    have hxor : bits .xor .u64 (if IntKind.u64.signed = true then -1 else IntKind.u64.max) (y : Int) = (y1 : Int) := HX1.out
    have hand1 := HA1.out
    clear hW
    simp only [List.take, opsAt, List.drop, List.cons_append, List.nil_append]
    repeat (go_big_quiet_step ((go_at_call 253; (with_reducible exact Calls.class_same (HNw.out _)))))
    exact rfl
  simp only [List.take, List.drop, opsAt, List.cons_append, List.nil_append, wpHv]
  have HRd : Hid (RZ w t b n wd per len X p fw lw fm lm wr.drew) := hid (HR.out.drew ⟨1, rfl⟩)
  generalize wr.drew = wd' at HRd ⊢
  clear HR
  go_wp2_with fail
  refine (HMq.out wd').mono ?_
  rintro e w5 ⟨rfl, hb5⟩
  have HR5 := hid (HRd.out.below hb5)
  clear hb5 HMq HRd
  have hand := HZ.out
  go_wp2_with fail
  refine ⟨HR5.out, ?_⟩
  go_wp2_with fail
  refine ⟨HR5.out, ?_⟩
  go_wp2_with fail
  refine ⟨HR5.out, ?_⟩
  simp only [QN]
  clear HZ HCx
  by_cases hz0 : z = 0
  · as_aux_lemma =>
    have dz : ((z : Int) == 0) = true := by simp [hz0]
    have HF := hid (HWx.out.1 hz0)
    clear hz0 HNz HWx
    go_wp2
    exact ⟨⟨q + 1, by go_num, by omega, by omega, hid ⟨HF.out, HR5.out⟩⟩, by simp [intOf]; omega⟩
  · as_aux_lemma =>
    have dz : ((z : Int) == 0) = false := by simp; omega
    obtain ⟨k, hk, hl, hN⟩ := HWx.out.2 hz0
    have HN := hid hN
    have HI := hid (fun (wz : World) (h4 : TB t b n wd per len X wz) => h4.indexOf q z k (by omega) hz hk hl)
    clear HWx hz0 hN hl
    generalize per * q + k / wd = r at HI HN
    go_wp2_with fail
    refine (HI.out _ HR5.out.tb).mono ?_
    rintro e w7 ⟨rfl, hd7⟩
    have HF : Hid (Below w.heap.size w w7) := hid (HR5.out.drew hd7).bel
    clear hd7 HR5
    go_wp2
    refine bodyPost_ret (results_tmp2 Tryz.results216 _ _ _) rfl ?_
    exact ⟨(r : Int), rfl, hid ⟨HN.out, HF.out⟩⟩
end
end Go.Proofs.Qxb6500887aGreat
