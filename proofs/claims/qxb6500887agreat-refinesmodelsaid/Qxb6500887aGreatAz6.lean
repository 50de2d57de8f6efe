/- Fill, PrevNonzero, CountNonzero, CountEqual for tables of any width (written by tools/mk_az6.py). -/
import Derived.Test.Qxb6500887aGreatAz5
namespace Go.Proofs.Qxb6500887aGreat
open Go.RowKit
set_option linter.unusedSimpArgs false
set_option linter.unusedVariables false

theorem high_uniq {y k k' : Nat} (h1 : y.testBit k = true) (h2 : y < 2 ^ (k + 1)) (h1' : y.testBit k' = true) (h2' : y < 2 ^ (k' + 1)) : k = k' := by
  have a := Nat.ge_two_pow_of_testBit h1
  have a' := Nat.ge_two_pow_of_testBit h1'
  rcases Nat.lt_trichotomy k k' with h | h | h
  · have : 2 ^ (k + 1) ≤ 2 ^ k' := Nat.pow_le_pow_right (by decide) h
    omega
  · exact h
  · have : 2 ^ (k' + 1) ≤ 2 ^ k := Nat.pow_le_pow_right (by decide) h
    omega
theorem exists_high {y : Nat} (hy : y < 18446744073709551616) (h0 : y ≠ 0) : ∃ k, k < 64 ∧ y.testBit k = true ∧ y < 2 ^ (k + 1) := by
  refine ⟨Nat.log2 y, (Nat.log2_lt h0).2 hy, ?_, ?_⟩
  · have h1 := Nat.log2_self_le h0
    have h2 := Nat.lt_log2_self (n := y)
    have hp : 0 < 2 ^ y.log2 := Nat.pow_pos (by decide)
    rw [Nat.testBit, Nat.shiftRight_eq_div_pow]
    have : y / 2 ^ y.log2 = 1 := by
      apply Nat.div_eq_of_lt_le
      · omega
      · rw [Nat.pow_succ] at h2; omega
    rw [this]
    rfl
  · exact Nat.lt_log2_self
theorem highestAt (y k : Nat) (hy : y < 18446744073709551616) (h1 : y.testBit k = true) (h2 : y < 2 ^ (k + 1)) (w : World) : Calls Tryz.prog 255 #[.int .u64 (y : Int)] w fun e w' => e = .returned (.int .i64 (k : Int)) ∧ w' = w :=
  (highestBitG y hy (fun e => by rw [e] at h1; simp at h1) w).mono (by
    rintro e w' ⟨k', rfl, hk, rfl⟩
    rw [high_uniq h1 h2 hk.out.2.1 hk.out.2.2]
    exact ⟨rfl, rfl⟩)
/-- A word with a range of it written. -/
def fillW (M pat x : Nat) : Nat := (x &&& (18446744073709551615 - M)) ||| (pat &&& M)
/-- A table with a range of it written. -/
def fillX (wd per lo hi v : Nat) (X : Nat → Nat) : Nat → Nat := fun q => if lo / per ≤ q ∧ q ≤ (hi - 1) / per then fillW (mskW wd per lo hi q) (v * onW wd) (X q) else X q
def fillP (wd per lo hi v : Nat) (X : Nat → Nat) (k : Nat) : Nat → Nat := fun q => if lo / per ≤ q ∧ q < k then fillW (mskW wd per lo hi q) (v * onW wd) (X q) else X q
theorem fillW_lt {M pat x : Nat} (hx : x < 18446744073709551616) (hp : pat < 18446744073709551616) : fillW M pat x < 18446744073709551616 := Nat.or_lt_two_pow (n := 64) (Nat.lt_of_le_of_lt Nat.and_le_left hx) (Nat.lt_of_le_of_lt Nat.and_le_left hp)
theorem fillP_start {wd per lo hi v : Nat} {X : Nat → Nat} : fillP wd per lo hi v X (lo / per) = X := by
  funext q; unfold fillP; rw [if_neg (by omega)]
theorem fillP_end {wd per lo hi v : Nat} {X : Nat → Nat} : fillP wd per lo hi v X ((hi - 1) / per + 1) = fillX wd per lo hi v X := by
  funext q; unfold fillP fillX
  by_cases h : lo / per ≤ q ∧ q ≤ (hi - 1) / per
  · rw [if_pos h, if_pos (by omega)]
  · rw [if_neg h, if_neg (by omega)]
theorem fillP_step {wd per lo hi v k : Nat} {X : Nat → Nat} (h : lo / per ≤ k) : fillP wd per lo hi v X (k + 1) = fup (fillP wd per lo hi v X k) k (fillW (mskW wd per lo hi k) (v * onW wd) (X k)) := by
  funext q
  by_cases e : q = k
  · subst e
    rw [fup_self]; unfold fillP; rw [if_pos (by omega)]
  · rw [fup_ne _ _ e]; unfold fillP
    by_cases h2 : lo / per ≤ q ∧ q < k
    · rw [if_pos h2, if_pos (by omega)]
    · rw [if_neg h2, if_neg (by omega)]
theorem fillP_at {wd per lo hi v k : Nat} {X : Nat → Nat} : fillP wd per lo hi v X k k = X k := by unfold fillP; rw [if_neg (by omega)]
/-- Inside Fill. -/
structure RF (w0 : World) (t b n wd per len : Nat) (X : Nat → Nat) (p fw lw fm lm : Nat) (w : World) : Prop where
  tb : TB t b n wd per len X w
  up : Upd b w0 w
  pk : Blk w p 222 [.int .i64 (fw : Int), .int .i64 (lw : Int), .int .u64 (fm : Int), .int .u64 (lm : Int)]
  pb : p ≠ b
section
variable {t b n wd per len : Nat} {X : Nat → Nat} {w w0 w' : World}
theorem RF.below {p fw lw fm lm : Nat} (h : RF w0 t b n wd per len X p fw lw fm lm w) (hb : Below w.heap.size w w') : RF w0 t b n wd per len X p fw lw fm lm w' := ⟨h.tb.below hb, h.up.ofBelow hb, h.pk.below hb, h.pb⟩
theorem RF.drew {p fw lw fm lm : Nat} (h : RF w0 t b n wd per len X p fw lw fm lm w) (hb : Drew w w') : RF w0 t b n wd per len X p fw lw fm lm w' := h.below (hb.below _)
theorem RF.ps {p fw lw fm lm : Nat} (h : RF w0 t b n wd per len X p fw lw fm lm w) : w.cell? ⟨p, 0, none⟩ = some (.int .i64 (fw : Int)) ∧ w.cell? ⟨p, 1, none⟩ = some (.int .i64 (lw : Int)) ∧ w.cell? ⟨p, 2, none⟩ = some (.int .u64 (fm : Int)) ∧ w.cell? ⟨p, 3, none⟩ = some (.int .u64 (lm : Int)) := ⟨h.pk.cell 0, h.pk.cell 1, h.pk.cell 2, h.pk.cell 3⟩
theorem RF.put {p fw lw fm lm q x : Nat} (h : RF w0 t b n wd per len X p fw lw fm lm w) (hq : q < len) (hx : x < 18446744073709551616) : RF w0 t b n wd per len (fup X q x) p fw lw fm lm (w.setCell ⟨b, q, none⟩ (.int .u64 (x : Int))) := by
  obtain ⟨k1, k2⟩ := h.tb.put hq hx
  exact ⟨k1, h.up.trans k2, h.pk.upd k2 h.pb, h.pb⟩
set_option maxRecDepth 100000 in
set_option maxHeartbeats 2000000 in
theorem TB.fill (h : TB t b n wd per len X w) (lo hi v : Nat) (hlt : lo < hi) (h2 : hi ≤ n) (hv : v ≤ 2 ^ wd - 1) : Calls Tryz.prog 171 #[.pointer (some ⟨t, 0, none⟩), .int .i64 (lo : Int), .int .i64 (hi : Int), .int .u64 (v : Int)] w fun e w' => e = .returned (.bool true) ∧ Hid (TB t b n wd per len (fillX wd per lo hi v X) w' ∧ Upd b w w') := by
  have h1 : lo ≤ hi := by omega
  have HT := hid h
  have HH := hid (h.hasRange lo hi h1 h2)
  obtain ⟨fw, lw, fm, lm, hW, hWc⟩ := h.window lo hi h1 h2
  have HW := hid hW
  have HWc := hid hWc
  have HMa := hid (fun (q : Nat) (wz : World) => maskAtG fw lw fm lm q hW.bfm hW.blm wz)
  have hwd := h.k.wd
  have hle := hW.le
  have hlw := hW.small
  have hll := hW.lt
  have hsm := h.k.small
  have HL := hid h.lt
  have hmf := hW.bfm
  have Hwd := hid hwd
  have hpat := pat_lt hwd hv
  have HRe := hid (fun (wz : World) (hz : TB t b n wd per len X wz) => hz.repeat v hv)
  have c4 := h.cells.2.2.2.2.1
  have dv : decide (2 ^ wd - 1 < v) = false := decide_eq_false (by omega)
  have hcs : fw = lo / per ∧ lw = (hi - 1) / per ∧ ∀ q, mAt fw lw fm lm q = mskW wd per lo hi q := by
    rcases hW.cs with ⟨e, _⟩ | ⟨_, e1, e2, e3⟩
    · omega
    · exact ⟨e1, e2, e3⟩
  have HC := hid hcs
  have hfl : fw ≤ lw := by
    rw [hcs.1, hcs.2.1]; exact Nat.div_le_div_right (by omega)
  have hlwl := hll hfl
  clear h hW hWc hwd hcs
  obtain ⟨pat, hpt⟩ : ∃ x, v * onW wd = x := ⟨_, rfl⟩
  rw [hpt] at HRe hpat
  have Hpt := hid hpt
  clear hpt hv
  generalize 2 ^ wd - 1 = mask at c4 dv
  go_enter Tryz.func171, Tryz.ntmps171
  go_wp2_with fail
  refine HH.out.mono ?_
  rintro e w1 ⟨rfl, hw1⟩
  have hw1' := hw1.symm
  clear hw1
  subst hw1'
  go_wp2_with fail
  refine (HWc.out w HT.out).mono ?_
  rintro e w2 ⟨rfl, hb2⟩
  have HB2 := hid hb2
  clear hb2 HWc HH
  obtain ⟨p, hp⟩ : ∃ p, w2.heap.size = p := ⟨_, rfl⟩
  go_upto_region 4 with fail
  obtain ⟨w3, hw3⟩ : ∃ w3, w2.alloc (.cells #[.int .i64 (fw : Int), .int .i64 (lw : Int), .int .u64 (fm : Int), .int .u64 (lm : Int)] 222) = w3 := ⟨_, rfl⟩
  have HR3 : Hid (RF w t b n wd per len (fillP wd per lo hi v X fw) p fw lw fm lm w3) := hid (by
    have k1 := RZ.new (fw := fw) (lw := lw) (fm := fm) (lm := lm) (HT.out.below HB2.out) HB2.out hp
    rw [hw3] at k1
    have hd := HT.out.dom.2
    have hs := HB2.out.size
    rw [HC.out.1, fillP_start, ← HC.out.1]
    exact ⟨k1.tb, (Upd.refl b w).ofBelow k1.bel, k1.pk, by omega⟩)
  have HT3 : Hid (TB t b n wd per len X w3) := hid (by
    have k1 := RZ.new (fw := fw) (lw := lw) (fm := fm) (lm := lm) (HT.out.below HB2.out) HB2.out hp
    rw [hw3] at k1
    exact k1.tb)
  (try simp only [hw3])
  clear hw3 hp HB2 c4 dv
  go_wp2_with fail
  refine (HRe.out w3 HT3.out).mono ?_
  rintro e w6 ⟨rfl, hw6⟩
  have hw6' := hw6.symm
  clear hw6
  subst hw6'
  clear HRe HT3
  have c0 := HR3.out.ps.1
  go_upto_region 6 with fail
  clear c0
  go_loopw [11] (fun u wr => ∃ q : Nat, u = .int .i64 (q : Int) ∧ fw ≤ q ∧ q ≤ lw + 1 ∧ Hid (RF w t b n wd per len (fillP wd per lo hi v X q) p fw lw fm lm wr)) (fun u _ => 40000 - (intOf u).toNat)
  case atStart => exact ⟨fw, rfl, Nat.le_refl _, hle, HR3⟩
  case round =>
  clear HR3
  obtain ⟨q, rfl, hq1, hq2, HK⟩ := hrel
  have c1 := HK.out.ps.2.1
  by_cases hql : q ≤ lw
  rotate_left
  · as_aux_lemma =>
    have dq : decide ((q : Int) ≤ (lw : Int)) = false := decide_eq_false (by omega)
    have HF : Hid (TB t b n wd per len (fillX wd per lo hi v X) wr ∧ Upd b w wr) := hid (by
      obtain rfl : q = lw + 1 := by omega
      have k := HK.out.tb
      rw [HC.out.2.1, fillP_end] at k
      exact ⟨k, HK.out.up⟩)
    clear HK
    go_wp2
    go_ret
    exact ⟨rfl, HF⟩
  as_aux_lemma =>
  have dq : decide ((q : Int) ≤ (lw : Int)) = true := decide_eq_true (by omega)
  have hq128 : (q : Int) < (len : Int) := by omega
  have hqlen : q < len := by omega
  have hlen6 : len ≤ 32768 := hsm
  have HMq := hid (HMa.out q)
  have hM := mAt_lt (lw := lw) (lm := lm) (fw := fw) (q := q) hmf
  have hx := HL.out q
  obtain ⟨x, hxq⟩ : ∃ x, X q = x := ⟨_, rfl⟩
  obtain ⟨M, hMq⟩ : ∃ M, mAt fw lw fm lm q = M := ⟨_, rfl⟩
  rw [hMq] at HMq hM
  rw [hxq] at hx
  have hfl2 : fillW M pat x < 18446744073709551616 := fillW_lt hx hpat
  have HV : Hid (bits .or .u64 (bits .andNot .u64 (x : Int) (M : Int)) (bits .and .u64 (pat : Int) (M : Int)) = ((fillW M pat x : Nat) : Int)) := hid (by
    rw [u64_andNot_nat x M hx hM, u64_and_nat hpat hM]
    exact u64_or_nat _ _ (Nat.lt_of_le_of_lt Nat.and_le_left hx) (Nat.lt_of_le_of_lt Nat.and_le_left hpat))
  have HCx : Hid (∀ wz, RF w t b n wd per len (fillP wd per lo hi v X q) p fw lw fm lm wz → wz.cell? ⟨b, q, none⟩ = some (.int .u64 (x : Int)) ∧ wz.frozen? ⟨b, q, none⟩ = false) := hid (fun wz hz => by
    have k := hz.tb.word hqlen
    rw [fillP_at, hxq] at k
    exact ⟨k, hz.tb.wb.frozen _⟩)
  have HP : Hid (∀ wz, RF w t b n wd per len (fillP wd per lo hi v X q) p fw lw fm lm wz → RF w t b n wd per len (fillP wd per lo hi v X (q + 1)) p fw lw fm lm (wz.setCell ⟨b, q, none⟩ (.int .u64 ((fillW M pat x : Nat) : Int)))) := hid (fun wz hz => by
    have k := hz.put hqlen hfl2
    rw [fillP_step (by rw [← HC.out.1]; exact hq1), ← HC.out.2.2 q, hMq, Hpt.out, hxq]
    exact k)
  generalize fillW M pat x = y at *
  have HR := hid HK.out
  clear HK HMa hMq hxq
  obtain ⟨c0, _, c2, c3⟩ := HR.out.ps
  go_wp2_with fail
  refine (HMq.out wr).mono ?_
  rintro e w5 ⟨rfl, hb5⟩
  have HR5 := hid (HR.out.below hb5)
  clear hb5 HMq HR
  go_upto_region 9 with fail
  clear c1 c0 c2 c3
  refine wp_region_heavy (fun wz => RF w t b n wd per len (fillP wd per lo hi v X q) p fw lw fm lm wz) 18 [0, 1, 2, 3, 4, 5, 6, 7, 8, 9, 10, 11, 12, 13, 14, 15, 16, 17] [] rfl (by kernel_rfl) (by kernel_rfl) (fun d _ _ _ _ h => by cases d <;> exact h) (HR5.out.drew ⟨1, rfl⟩) ?_
  apply Exists.intro
  refine ⟨?_, ?_⟩
  · intro W hW
    have t0 : ∀ u, (W u).cell? ⟨t, 0, none⟩ = some (.slice (some ⟨b, 0, none⟩) len len) := fun u => (hW u).tb.cells.1
    have x0 : ∀ u, (W u).cell? ⟨b, q, none⟩ = some (.int .u64 (x : Int)) := fun u => (HCx.out _ (hW u)).1
    clear hW
    simp only [List.take, opsAt, List.drop, List.cons_append, List.nil_append]
    repeat (go_big_quiet_step (fail))
    exact rfl
  simp only [List.take, List.drop, opsAt, List.cons_append, List.nil_append, wpHv, QN]
  have HRd : Hid (RF w t b n wd per len (fillP wd per lo hi v X q) p fw lw fm lm w5.drew) := hid (HR5.out.drew ⟨1, rfl⟩)
  generalize w5.drew = wd' at HRd ⊢
  clear HR5
  rw [HV.out]
  obtain ⟨z0, z1⟩ := HCx.out wd' HRd.out
  have HF := hid (HP.out wd' HRd.out)
  clear HRd HP HCx HV
  go_wp2
  exact ⟨⟨q + 1, by go_num, by omega, by omega, HF⟩, by simp [intOf]; omega⟩
set_option maxRecDepth 100000 in
set_option maxHeartbeats 2000000 in
theorem TB.prevNonzero (h : TB t b n wd per len X w) (lo hi : Nat) (hlt : lo < hi) (h2 : hi ≤ n) : Calls Tryz.prog 223 #[.pointer (some ⟨t, 0, none⟩), .int .i64 (lo : Int), .int .i64 (hi : Int)] w fun e w' => ∃ r : Int, e = .returned (.tuple #[.int .i64 r, .bool true]) ∧ Hid (Pv (nzP wd per X) lo hi r ∧ Below w.heap.size w w') := by
  have h1 : lo ≤ hi := by omega
  have HT := hid h
  have HH := hid (h.hasRange lo hi h1 h2)
  obtain ⟨fw, lw, fm, lm, hW, hWc⟩ := h.window lo hi h1 h2
  have HW := hid hW
  have HWc := hid hWc
  have HMa := hid (fun (q : Nat) (wz : World) => maskAtG fw lw fm lm q hW.bfm hW.blm wz)
  have hwd := h.k.wd
  have hle := hW.le
  have hlw := hW.small
  have hll := hW.lt
  have hsm := h.k.small
  have HL := hid h.lt
  have hmf := hW.bfm
  have Hwd := hid hwd
  have hcs : fw = lo / per ∧ lw = (hi - 1) / per ∧ ∀ q, mAt fw lw fm lm q = mskW wd per lo hi q := by
    rcases hW.cs with ⟨e, _⟩ | ⟨_, e1, e2, e3⟩
    · omega
    · exact ⟨e1, e2, e3⟩
  have hfl : fw ≤ lw := by
    rw [hcs.1, hcs.2.1]; exact Nat.div_le_div_right (by omega)
  have hlwl := hll hfl
  have hper := hwd.mul
  have HSt : Hid (∀ i, lo ≤ i → i < hi → per * (lw + 1) ≤ i → nzP wd per X i = false) := hid (fun i a1 a2 a3 => by
    rw [hcs.2.1] at a3
    have := Nat.lt_div_mul_add (a := hi - 1) (b := per) (by omega)
    rw [Nat.mul_add, Nat.mul_one, Nat.mul_comm] at a3
    omega)
  have HFi : Hid ((∀ i, lo ≤ i → i < hi → per * fw ≤ i → nzP wd per X i = false) → Pv (nzP wd per X) lo hi (-1)) := hid (fun hh => .inl ⟨rfl, fun i a1 a2 => hh i a1 a2 (by
    rw [hcs.1]
    have := Nat.mul_div_le lo per
    omega)⟩)
  have HWn : Hid (∀ q, fw ≤ q → q ≤ lw → (∀ i, lo ≤ i → i < hi → per * (q + 1) ≤ i → nzP wd per X i = false) → (X q &&& mAt fw lw fm lm q = 0 → (∀ i, lo ≤ i → i < hi → per * q ≤ i → nzP wd per X i = false)) ∧ (X q &&& mAt fw lw fm lm q ≠ 0 → ∃ k, k < 64 ∧ (nzW wd (X q &&& mAt fw lw fm lm q)).testBit k = true ∧ nzW wd (X q &&& mAt fw lw fm lm q) < 2 ^ (k + 1) ∧ Pv (nzP wd per X) lo hi ((per * q + k / wd : Nat) : Int))) := hid (fun q a1 a2 a3 => by
    rw [hcs.2.2 q]
    rw [hcs.1] at a1
    rw [hcs.2.1] at a2
    have hf := flg_nz (X := X) hwd hlt a1 a2
    have hz : X q &&& mskW wd per lo hi q < 18446744073709551616 := Nat.lt_of_le_of_lt Nat.and_le_left (HL.out q)
    refine ⟨fun h0 => pv_step hwd.mul.2.1 a3 (hf.zero hwd (by rw [h0]; unfold nzW; simp)), fun h0 => ?_⟩
    obtain ⟨k, hk, hl1, hl2⟩ := exists_high (nzW_lt wd _) (nzW_ne hwd hz h0)
    have hL := hf.high hwd hk hl1 hl2
    exact ⟨k, hk, hl1, hl2, pv_find hwd.mul.2.1 a3 hL.1 hL.2.1 hL.2.2⟩)
  have hp1 := hper.2.2.1
  have hw1 := hper.2.2.2.1
  have hw4 := hper.2.2.2.2
  clear h hW hWc hwd hper hcs
  go_enter Tryz.func223, Tryz.ntmps223
  go_wp2_with fail
  refine HH.out.mono ?_
  rintro e w1 ⟨rfl, hw1⟩
  have hw1' := hw1.symm
  clear hw1
  subst hw1'
  go_wp2_with fail
  refine (HWc.out w HT.out).mono ?_
  rintro e w2 ⟨rfl, hb2⟩
  have HB2 := hid hb2
  clear hb2 HWc HH
  obtain ⟨p, hp⟩ : ∃ p, w2.heap.size = p := ⟨_, rfl⟩
  go_upto_region 4 with fail
  obtain ⟨w3, hw3⟩ : ∃ w3, w2.alloc (.cells #[.int .i64 (fw : Int), .int .i64 (lw : Int), .int .u64 (fm : Int), .int .u64 (lm : Int)] 222) = w3 := ⟨_, rfl⟩
  have HR3 : Hid (RZ w t b n wd per len X p fw lw fm lm w3) := hid (by
    rw [← hw3]
    exact RZ.new (HT.out.below HB2.out) HB2.out hp)
  (try simp only [hw3])
  clear hw3 hp HB2
  have c0 := HR3.out.ps.2.1
  go_upto_region 5 with fail
  clear c0
  go_loopw [9] (fun u wr => ∃ (q : Nat) (i : Int), u = .int .i64 i ∧ i = (q : Int) - 1 ∧ fw ≤ q ∧ q ≤ lw + 1 ∧ Hid ((∀ i, lo ≤ i → i < hi → per * q ≤ i → nzP wd per X i = false) ∧ RZ w t b n wd per len X p fw lw fm lm wr)) (fun u _ => (intOf u + 1).toNat)
  case atStart => exact ⟨lw + 1, (lw : Int), rfl, by omega, by omega, Nat.le_refl _, hid ⟨HSt.out, HR3.out⟩⟩
  case round =>
  clear HR3 HSt
  obtain ⟨q, i, rfl, hi0, hq1, hq2, HK⟩ := hrel
  have c1 := HK.out.2.ps.1
  by_cases hql : fw < q
  rotate_left
  · as_aux_lemma =>
    have dq : decide (i ≥ (fw : Int)) = false := decide_eq_false (by omega)
    have HF : Hid (Pv (nzP wd per X) lo hi (-1) ∧ Below w.heap.size w wr) := hid (by
      obtain rfl : q = fw := by omega
      exact ⟨HFi.out HK.out.1, HK.out.2.bel⟩)
    clear HK hi0
    go_wp2
    refine bodyPost_ret (results_tmp2 Tryz.results223 _ _ _) rfl ?_
    exact ⟨-1, rfl, HF⟩
  as_aux_lemma =>
  obtain ⟨k0, rfl⟩ : ∃ k0, q = k0 + 1 := ⟨q - 1, by omega⟩
  obtain rfl : i = (k0 : Int) := by omega
  clear hi0
  have dq : decide ((k0 : Int) ≥ (fw : Int)) = true := decide_eq_true (by omega)
  have hq128 : (k0 : Int) < (len : Int) := by omega
  have hlen6 : len ≤ 32768 := hsm
  have hqlen : k0 < len := by omega
  have HWx := hid (HWn.out k0 (by omega) (by omega) HK.out.1)
  have HMq := hid (HMa.out k0)
  have hM := mAt_lt (lw := lw) (lm := lm) (fw := fw) (q := k0) hmf
  obtain ⟨M, hMq⟩ : ∃ M, mAt fw lw fm lm k0 = M := ⟨_, rfl⟩
  rw [hMq] at HMq HWx hM
  have hx := HL.out k0
  have HR := hid HK.out.2
  have HZ : Hid (bits .and .u64 ((X k0 : Nat) : Int) (M : Int) = ((X k0 &&& M : Nat) : Int)) := hid (u64_and_nat hx hM)
  have hz : X k0 &&& M < 18446744073709551616 := Nat.lt_of_le_of_lt Nat.and_le_left hx
  have HCx : Hid (∀ wz, RZ w t b n wd per len X p fw lw fm lm wz → wz.cell? ⟨b, k0, none⟩ = some (.int .u64 ((X k0 : Nat) : Int))) := hid (fun wz hz => hz.tb.word hqlen)
  generalize X k0 &&& M = z at HZ HWx hz
  have HNz := hid (fun (wz : World) (h4 : TB t b n wd per len X wz) => h4.nonzero z hz)
  generalize X k0 = x at *
  clear HK HWn HMa hMq HFi
  go_upto_region 7 with fail
  clear c1
  refine wp_region_heavy (fun wz => RZ w t b n wd per len X p fw lw fm lm wz) 12 [0, 1, 2, 3, 4, 5, 6, 7, 8] [9, 10, 11] rfl (by kernel_rfl) (by kernel_rfl) (fun d _ _ _ _ h => by cases d <;> exact h) (HR.out.drew ⟨1, rfl⟩) ?_
  apply Exists.intro
  refine ⟨?_, ?_⟩
  · intro W hW
    have t0 : ∀ u, (W u).cell? ⟨t, 0, none⟩ = some (.slice (some ⟨b, 0, none⟩) len len) := fun u => (hW u).tb.cells.1
    have x0 : ∀ u, (W u).cell? ⟨b, k0, none⟩ = some (.int .u64 (x : Int)) := fun u => HCx.out _ (hW u)
    have p0 : ∀ u, (W u).cell? ⟨p, 0, none⟩ = some (.int .i64 (fw : Int)) := fun u => (hW u).ps.1
    have p1 : ∀ u, (W u).cell? ⟨p, 1, none⟩ = some (.int .i64 (lw : Int)) := fun u => (hW u).ps.2.1
    have p2 : ∀ u, (W u).cell? ⟨p, 2, none⟩ = some (.int .u64 (fm : Int)) := fun u => (hW u).ps.2.2.1
    have p3 : ∀ u, (W u).cell? ⟨p, 3, none⟩ = some (.int .u64 (lm : Int)) := fun u => (hW u).ps.2.2.2
    clear hW
    simp only [List.take, opsAt, List.drop, List.cons_append, List.nil_append]
    repeat (go_big_quiet_step (fail))
    exact rfl
  simp only [List.take, List.drop, opsAt, List.cons_append, List.nil_append, wpHv]
  have HRd : Hid (RZ w t b n wd per len X p fw lw fm lm wr.drew) := hid (HR.out.drew ⟨1, rfl⟩)
  generalize wr.drew = wd' at HRd ⊢
  clear HR
  go_wp2_with fail
  refine (HMq.out wd').mono ?_
  rintro e w5 ⟨rfl, hb5⟩
  have HR5 := hid (HRd.out.below hb5)
  clear hb5 HMq HRd
  have hand := HZ.out
  go_wp2_with fail
  refine ⟨HR5.out, ?_⟩
  go_wp2_with fail
  refine ⟨HR5.out, ?_⟩
  go_wp2_with fail
  refine ⟨HR5.out, ?_⟩
  simp only [QN]
  clear HZ HCx
  by_cases hz0 : z = 0
  · as_aux_lemma =>
    have dz : ((z : Int) == 0) = true := by simp [hz0]
    have HF := hid (HWx.out.1 hz0)
    clear hz0 HNz HWx
    go_wp2
    exact ⟨⟨k0, (k0 : Int) - 1, by go_num, rfl, by omega, by omega, hid ⟨HF.out, HR5.out⟩⟩, by simp [intOf] <;> omega⟩
  · as_aux_lemma =>
    have dz : ((z : Int) == 0) = false := by simp; omega
    obtain ⟨k, hk, hl1, hl2, hN⟩ := HWx.out.2 hz0
    have HN := hid hN
    have HHb := hid (fun (wz : World) => highestAt (nzW wd z) k (nzW_lt wd z) hl1 hl2 wz)
    clear HWx hz0 hN hl1 hl2
    generalize nzW wd z = y at HNz HHb
    have hm2 : per * k0 ≤ 64 * 32768 := Nat.mul_le_mul hp1 (by omega)
    have hd : k / wd ≤ k := Nat.div_le_self _ _
    have HE : Hid (wrap64 (((per * k0 : Nat) : Int) + ((k / wd : Nat) : Int)) = ((per * k0 + k / wd : Nat) : Int)) := hid (by
      generalize per * k0 = z1 at *
      generalize k / wd = z2 at *
      rw [show (z1 : Int) + (z2 : Int) = ((z1 + z2 : Nat) : Int) by omega]
      exact wrap64_nat (by omega) (by omega))
    have HE1 : Hid (wrap64 ((k0 : Int) * (per : Int)) = ((per * k0 : Nat) : Int)) := hid (by rw [show (k0 : Int) * (per : Int) = ((per * k0 : Nat) : Int) by rw [Nat.mul_comm]; simp]; generalize per * k0 = z at *; exact wrap64_nat (by omega) (by omega))
    have HE2 : Hid (wrap64 ((k : Int) / (wd : Int)) = ((k / wd : Nat) : Int)) := hid (by rw [show (k : Int) / (wd : Int) = ((k / wd : Nat) : Int) by simp]; generalize k / wd = z at *; exact wrap64_nat (by omega) (by omega))
    have HTw : Hid (∀ wz, Drew w5 wz → Calls Tryz.prog 253 #[.pointer (some ⟨t, 0, none⟩), .int .u64 (z : Int)] wz fun e w' => e = .returned (.int .u64 (y : Int)) ∧ w' = wz) := hid (fun wz hz => HNz.out wz (HR5.out.drew hz).tb)
    clear HNz
    have c2 := HR5.out.tb.cells.2.2.1
    have c3 := HR5.out.tb.cells.2.2.2.1
    have HN2 : Hid (∀ nn, Calls Tryz.prog 253 #[.pointer (some ⟨t, 0, none⟩), .int .u64 (z : Int)] (w5.drewN nn) fun e w' => e = .returned (.int .u64 (y : Int)) ∧ w' = w5.drewN nn) := hid (fun nn => HTw.out _ ⟨nn, rfl⟩)
    clear HTw hm2 hd
    go_wp2_with fail
    go_quiet (first | (go_at_call 253; with_reducible exact Calls.quiet_of_same (HN2.out _)) | (go_at_call 255; with_reducible exact Calls.quiet_of_same (HHb.out _)))
    rw [HE1.out, HE2.out, HE.out]
    generalize per * k0 + k / wd = r at *
    have HF : Hid (Below w.heap.size w (w5.drewN nq)) := hid (HR5.out.drew ⟨nq, rfl⟩).bel
    clear HR5
    go_wp2
    refine bodyPost_ret (results_tmp2 Tryz.results223 _ _ _) rfl ?_
    exact ⟨(r : Int), rfl, hid ⟨HN.out, HF.out⟩⟩
end
end Go.Proofs.Qxb6500887aGreat
