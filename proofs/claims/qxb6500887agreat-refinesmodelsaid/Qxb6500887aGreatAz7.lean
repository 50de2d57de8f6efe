/- CountNonzero, CountEqual (a bound only), CountZero, Clear, AllZero, ZeroRun (written by tools/mk_az7.py). -/
import Derived.Test.Qxb6500887aGreatAz6
namespace Go.Proofs.Qxb6500887aGreat
open Go.RowKit
set_option linter.unusedSimpArgs false
set_option linter.unusedVariables false

section
variable {t b n wd per len : Nat} {X : Nat → Nat} {w w0 w' : World}
theorem ocN (y : Nat) (hy : y < 18446744073709551616) : ∃ c : Nat, c ≤ 255 ∧ ∀ w, Calls Tryz.prog 252 #[.int .u64 (y : Int)] w fun e w' => e = .returned (.int .i64 (c : Int)) ∧ w' = w := by
  obtain ⟨h1, h2⟩ := ocI_le (y : Int)
  refine ⟨(ocI (y : Int)).toNat, by omega, fun w => ?_⟩
  rw [show (((ocI (y : Int)).toNat : Nat) : Int) = ocI (y : Int) by omega]
  exact onesCountG y hy w
set_option maxRecDepth 100000 in
set_option maxHeartbeats 2000000 in
theorem TB.countNonzero (h : TB t b n wd per len X w) (lo hi : Nat) (h1 : lo ≤ hi) (h2 : hi ≤ n) : Calls Tryz.prog 214 #[.pointer (some ⟨t, 0, none⟩), .int .i64 (lo : Int), .int .i64 (hi : Int)] w fun e w' => ∃ c : Nat, e = .returned (.tuple #[.int .i64 (c : Int), .bool true]) ∧ c ≤ 16777216 ∧ Hid (Below w.heap.size w w') := by
  have HT := hid h
  have HH := hid (h.hasRange lo hi h1 h2)
  obtain ⟨fw, lw, fm, lm, hW, hWc⟩ := h.window lo hi h1 h2
  have HW := hid hW
  have HWc := hid hWc
  have HMa := hid (fun (q : Nat) (wz : World) => maskAtG fw lw fm lm q hW.bfm hW.blm wz)
  have hwd := h.k.wd
  have hle := hW.le
  have hlw := hW.small
  have hll := hW.lt
  have hsm := h.k.small
  have HL := hid h.lt
  have hmf := hW.bfm
  have Hwd := hid hwd
  have hhi : hi ≤ 32768 := by have := h.k.n; omega
  clear h hW hWc hwd
  go_enter Tryz.func214, Tryz.ntmps214
  go_wp2_with fail
  refine HH.out.mono ?_
  rintro e w1 ⟨rfl, hw1⟩
  have hw1' := hw1.symm
  clear hw1
  subst hw1'
  go_wp2_with fail
  refine (HWc.out w HT.out).mono ?_
  rintro e w2 ⟨rfl, hb2⟩
  have HB2 := hid hb2
  clear hb2 HWc HH
  obtain ⟨p, hp⟩ : ∃ p, w2.heap.size = p := ⟨_, rfl⟩
  go_upto_region 4 with fail
  obtain ⟨w3, hw3⟩ : ∃ w3, w2.alloc (.cells #[.int .i64 (fw : Int), .int .i64 (lw : Int), .int .u64 (fm : Int), .int .u64 (lm : Int)] 222) = w3 := ⟨_, rfl⟩
  have HR3 : Hid (RZ w t b n wd per len X p fw lw fm lm w3) := hid (by
    rw [← hw3]
    exact RZ.new (HT.out.below HB2.out) HB2.out hp)
  (try simp only [hw3])
  clear hw3 hp HB2
  have c0 := HR3.out.ps.1
  go_upto_region 6 with fail
  clear c0
  go_loopw [9, 10] (fun v u wr => ∃ c q : Nat, v = .int .i64 (c : Int) ∧ u = .int .i64 (q : Int) ∧ c ≤ 256 * q ∧ fw ≤ q ∧ q ≤ lw + 1 ∧ Hid (RZ w t b n wd per len X p fw lw fm lm wr)) (fun _ u _ => 40000 - (intOf u).toNat)
  case atStart => exact ⟨0, fw, rfl, rfl, by omega, Nat.le_refl _, hle, HR3⟩
  case round =>
  clear HR3
  obtain ⟨c, q, rfl, rfl, hc, hq1, hq2, HK⟩ := hrel
  have c1 := HK.out.ps.2.1
  by_cases hql : q ≤ lw
  rotate_left
  · as_aux_lemma =>
    have dq : decide ((q : Int) ≤ (lw : Int)) = false := decide_eq_false (by omega)
    have HF : Hid (Below w.heap.size w wr) := hid HK.out.bel
    clear HK
    go_wp2
    refine bodyPost_ret (results_tmp2 Tryz.results214 _ _ _) rfl ?_
    exact ⟨c, rfl, by omega, HF⟩
  as_aux_lemma =>
  have dq : decide ((q : Int) ≤ (lw : Int)) = true := decide_eq_true (by omega)
  have hlen := hll (by omega)
  have hq128 : (q : Int) < (len : Int) := by omega
  have hlen6 : len ≤ 32768 := hsm
  have HMq := hid (HMa.out q)
  have hM := mAt_lt (lw := lw) (lm := lm) (fw := fw) (q := q) hmf
  generalize mAt fw lw fm lm q = M at HMq hM
  have hx := HL.out q
  have HR := hid HK.out
  have hqlen : q < len := by omega
  have HCx : Hid (∀ wz, RZ w t b n wd per len X p fw lw fm lm wz → wz.cell? ⟨b, q, none⟩ = some (.int .u64 ((X q : Nat) : Int))) := hid (fun wz hz => hz.tb.word hqlen)
  generalize X q = x at *
  have HZ : Hid (bits .and .u64 (x : Int) (M : Int) = ((x &&& M : Nat) : Int)) := hid (u64_and_nat hx hM)
  have hz : x &&& M < 18446744073709551616 := Nat.lt_of_le_of_lt Nat.and_le_left hx
  generalize x &&& M = z at HZ hz
  have HNz := hid (fun (wz : World) (h4 : TB t b n wd per len X wz) => h4.nonzero z hz)
  obtain ⟨sm, hsm2, hoc⟩ := ocN (nzW wd z) (nzW_lt wd z)
  have HOc := hid hoc
  clear hoc
  generalize nzW wd z = y at HNz HOc
  clear HK HMa
  go_upto_region 8 with fail
  clear c1
  refine wp_region_heavy (fun wz => RZ w t b n wd per len X p fw lw fm lm wz) 16 [0, 1, 2, 3, 4, 5, 6, 7, 8, 9, 10] [11, 12, 13, 14, 15] rfl (by kernel_rfl) (by kernel_rfl) (fun d _ _ _ _ h => by cases d <;> exact h) (HR.out.drew ⟨1, rfl⟩) ?_
  apply Exists.intro
  refine ⟨?_, ?_⟩
  · intro W hW
    have t0 : ∀ u, (W u).cell? ⟨t, 0, none⟩ = some (.slice (some ⟨b, 0, none⟩) len len) := fun u => (hW u).tb.cells.1
    have x0 : ∀ u, (W u).cell? ⟨b, q, none⟩ = some (.int .u64 (x : Int)) := fun u => HCx.out _ (hW u)
    have p0 : ∀ u, (W u).cell? ⟨p, 0, none⟩ = some (.int .i64 (fw : Int)) := fun u => (hW u).ps.1
    have p1 : ∀ u, (W u).cell? ⟨p, 1, none⟩ = some (.int .i64 (lw : Int)) := fun u => (hW u).ps.2.1
    have p2 : ∀ u, (W u).cell? ⟨p, 2, none⟩ = some (.int .u64 (fm : Int)) := fun u => (hW u).ps.2.2.1
    have p3 : ∀ u, (W u).cell? ⟨p, 3, none⟩ = some (.int .u64 (lm : Int)) := fun u => (hW u).ps.2.2.2
    clear hW
    simp only [List.take, opsAt, List.drop, List.cons_append, List.nil_append]
    repeat (go_big_quiet_step (fail))
    exact rfl
  simp only [List.take, List.drop, opsAt, List.cons_append, List.nil_append, wpHv]
  have HRd : Hid (RZ w t b n wd per len X p fw lw fm lm wr.drew) := hid (HR.out.drew ⟨1, rfl⟩)
  generalize wr.drew = wd' at HRd ⊢
  clear HR HCx
  go_wp2_with fail
  refine (HMq.out wd').mono ?_
  rintro e w5 ⟨rfl, hb5⟩
  have HR5 := hid (HRd.out.below hb5)
  clear hb5 HMq HRd
  have hand := HZ.out
  go_wp2_with fail
  refine ⟨HR5.out, ?_⟩
  go_wp2_with fail
  refine ⟨HR5.out, ?_⟩
  go_wp2_with fail
  refine (HNz.out w5 HR5.out.tb).mono ?_
  rintro e w6 ⟨rfl, hw6⟩
  have hw6' := hw6.symm
  clear hw6
  subst hw6'
  go_wp2_with fail
  refine ⟨HR5.out, ?_⟩
  go_wp2_with fail
  refine (HOc.out w5).mono ?_
  rintro e w6 ⟨rfl, hw6⟩
  have hw6' := hw6.symm
  clear hw6
  subst hw6'
  clear HNz HOc hand HZ
  go_wp2_with fail
  refine ⟨HR5.out, ?_⟩
  go_wp2_with fail
  refine ⟨HR5.out, ?_⟩
  simp only [QN]
  go_wp2
  exact ⟨⟨c + sm, q + 1, by go_num, by go_num, by omega, by omega, by omega, HR5⟩, by simp [intOf]; omega⟩
set_option maxRecDepth 100000 in
set_option maxHeartbeats 2000000 in
theorem TB.countEqual (h : TB t b n wd per len X w) (lo hi : Nat) (v : Nat) (h1 : lo ≤ hi) (h2 : hi ≤ n) (hv : v ≤ 2 ^ wd - 1) : Calls Tryz.prog 262 #[.pointer (some ⟨t, 0, none⟩), .int .i64 (lo : Int), .int .i64 (hi : Int), .int .u64 (v : Int)] w fun e w' => ∃ c : Nat, e = .returned (.tuple #[.int .i64 ((hi : Int) - (lo : Int) - (c : Int)), .bool true]) ∧ c ≤ 16777216 ∧ Hid (Below w.heap.size w w') := by
  have HT := hid h
  have HH := hid (h.hasRange lo hi h1 h2)
  obtain ⟨fw, lw, fm, lm, hW, hWc⟩ := h.window lo hi h1 h2
  have HW := hid hW
  have HWc := hid hWc
  have HMa := hid (fun (q : Nat) (wz : World) => maskAtG fw lw fm lm q hW.bfm hW.blm wz)
  have hwd := h.k.wd
  have hle := hW.le
  have hlw := hW.small
  have hll := hW.lt
  have hsm := h.k.small
  have HL := hid h.lt
  have hmf := hW.bfm
  have Hwd := hid hwd
  have hpat := pat_lt hwd hv
  have HRe := hid (fun (wz : World) (hz : TB t b n wd per len X wz) => hz.repeat v hv)
  have c4 := h.cells.2.2.2.2.1
  have dv : decide (2 ^ wd - 1 < v) = false := decide_eq_false (by omega)
  generalize v * onW wd = pat at HRe hpat
  clear hv
  generalize 2 ^ wd - 1 = mask at c4 dv
  have hhi : hi ≤ 32768 := by have := h.k.n; omega
  clear h hW hWc hwd
  go_enter Tryz.func262, Tryz.ntmps262
  go_wp2_with fail
  refine HH.out.mono ?_
  rintro e w1 ⟨rfl, hw1⟩
  have hw1' := hw1.symm
  clear hw1
  subst hw1'
  go_wp2_with fail
  refine (HWc.out w HT.out).mono ?_
  rintro e w2 ⟨rfl, hb2⟩
  have HB2 := hid hb2
  clear hb2 HWc HH
  obtain ⟨p, hp⟩ : ∃ p, w2.heap.size = p := ⟨_, rfl⟩
  go_upto_region 4 with fail
  obtain ⟨w3, hw3⟩ : ∃ w3, w2.alloc (.cells #[.int .i64 (fw : Int), .int .i64 (lw : Int), .int .u64 (fm : Int), .int .u64 (lm : Int)] 222) = w3 := ⟨_, rfl⟩
  have HR3 : Hid (RZ w t b n wd per len X p fw lw fm lm w3) := hid (by
    rw [← hw3]
    exact RZ.new (HT.out.below HB2.out) HB2.out hp)
  (try simp only [hw3])
  clear hw3 hp HB2
  clear c4 dv
  go_wp2_with fail
  refine (HRe.out w3 HR3.out.tb).mono ?_
  rintro e w6 ⟨rfl, hw6⟩
  have hw6' := hw6.symm
  clear hw6
  subst hw6'
  clear HRe
  have c0 := HR3.out.ps.1
  go_upto_region 7 with fail
  clear c0
  go_loopw [12, 13] (fun v u wr => ∃ c q : Nat, v = .int .i64 (c : Int) ∧ u = .int .i64 (q : Int) ∧ c ≤ 256 * q ∧ fw ≤ q ∧ q ≤ lw + 1 ∧ Hid (RZ w t b n wd per len X p fw lw fm lm wr)) (fun _ u _ => 40000 - (intOf u).toNat)
  case atStart => exact ⟨0, fw, rfl, rfl, by omega, Nat.le_refl _, hle, HR3⟩
  case round =>
  clear HR3
  obtain ⟨c, q, rfl, rfl, hc, hq1, hq2, HK⟩ := hrel
  have c1 := HK.out.ps.2.1
  by_cases hql : q ≤ lw
  rotate_left
  · as_aux_lemma =>
    have dq : decide ((q : Int) ≤ (lw : Int)) = false := decide_eq_false (by omega)
    have HF : Hid (Below w.heap.size w wr) := hid HK.out.bel
    clear HK
    go_wp2
    refine bodyPost_ret (results_tmp2 Tryz.results262 _ _ _) rfl ?_
    exact ⟨c, rfl, by omega, HF⟩
  as_aux_lemma =>
  have dq : decide ((q : Int) ≤ (lw : Int)) = true := decide_eq_true (by omega)
  have hlen := hll (by omega)
  have hq128 : (q : Int) < (len : Int) := by omega
  have hlen6 : len ≤ 32768 := hsm
  have HMq := hid (HMa.out q)
  have hM := mAt_lt (lw := lw) (lm := lm) (fw := fw) (q := q) hmf
  generalize mAt fw lw fm lm q = M at HMq hM
  have hx := HL.out q
  have HR := hid HK.out
  have hqlen : q < len := by omega
  have HCx : Hid (∀ wz, RZ w t b n wd per len X p fw lw fm lm wz → wz.cell? ⟨b, q, none⟩ = some (.int .u64 ((X q : Nat) : Int))) := hid (fun wz hz => hz.tb.word hqlen)
  generalize X q = x at *
  have hxp : x ^^^ pat < 18446744073709551616 := Nat.xor_lt_two_pow (n := 64) hx hpat
  have HZ : Hid (bits .and .u64 (bits .xor .u64 (x : Int) (pat : Int)) (M : Int) = (((x ^^^ pat) &&& M : Nat) : Int)) := hid (by
    rw [show bits .xor .u64 (x : Int) (pat : Int) = ((x ^^^ pat : Nat) : Int) by
      rw [u64_xor _ _ (Int.natCast_nonneg _) (by omega) (Int.natCast_nonneg _) (by omega)]; simp]
    exact u64_and_nat hxp hM)
  have hz : (x ^^^ pat) &&& M < 18446744073709551616 := Nat.lt_of_le_of_lt Nat.and_le_left hxp
  generalize (x ^^^ pat) &&& M = z at HZ hz
  have HNz := hid (fun (wz : World) (h4 : TB t b n wd per len X wz) => h4.nonzero z hz)
  obtain ⟨sm, hsm2, hoc⟩ := ocN (nzW wd z) (nzW_lt wd z)
  have HOc := hid hoc
  clear hoc
  generalize nzW wd z = y at HNz HOc
  clear HK HMa
  go_upto_region 9 with fail
  clear c1
  refine wp_region_heavy (fun wz => RZ w t b n wd per len X p fw lw fm lm wz) 18 [0, 1, 2, 3, 4, 5, 6, 7, 8, 9, 10, 11, 12] [13, 14, 15, 16, 17] rfl (by kernel_rfl) (by kernel_rfl) (fun d _ _ _ _ h => by cases d <;> exact h) (HR.out.drew ⟨1, rfl⟩) ?_
  apply Exists.intro
  refine ⟨?_, ?_⟩
  · intro W hW
    have t0 : ∀ u, (W u).cell? ⟨t, 0, none⟩ = some (.slice (some ⟨b, 0, none⟩) len len) := fun u => (hW u).tb.cells.1
    have x0 : ∀ u, (W u).cell? ⟨b, q, none⟩ = some (.int .u64 (x : Int)) := fun u => HCx.out _ (hW u)
    have p0 : ∀ u, (W u).cell? ⟨p, 0, none⟩ = some (.int .i64 (fw : Int)) := fun u => (hW u).ps.1
    have p1 : ∀ u, (W u).cell? ⟨p, 1, none⟩ = some (.int .i64 (lw : Int)) := fun u => (hW u).ps.2.1
    have p2 : ∀ u, (W u).cell? ⟨p, 2, none⟩ = some (.int .u64 (fm : Int)) := fun u => (hW u).ps.2.2.1
    have p3 : ∀ u, (W u).cell? ⟨p, 3, none⟩ = some (.int .u64 (lm : Int)) := fun u => (hW u).ps.2.2.2
    clear hW
    simp only [List.take, opsAt, List.drop, List.cons_append, List.nil_append]
    repeat (go_big_quiet_step (fail))
    exact rfl
  simp only [List.take, List.drop, opsAt, List.cons_append, List.nil_append, wpHv]
  have HRd : Hid (RZ w t b n wd per len X p fw lw fm lm wr.drew) := hid (HR.out.drew ⟨1, rfl⟩)
  generalize wr.drew = wd' at HRd ⊢
  clear HR HCx
  go_wp2_with fail
  refine (HMq.out wd').mono ?_
  rintro e w5 ⟨rfl, hb5⟩
  have HR5 := hid (HRd.out.below hb5)
  clear hb5 HMq HRd
  have hand := HZ.out
  go_wp2_with fail
  refine ⟨HR5.out, ?_⟩
  go_wp2_with fail
  refine ⟨HR5.out, ?_⟩
  go_wp2_with fail
  refine (HNz.out w5 HR5.out.tb).mono ?_
  rintro e w6 ⟨rfl, hw6⟩
  have hw6' := hw6.symm
  clear hw6
  subst hw6'
  go_wp2_with fail
  refine ⟨HR5.out, ?_⟩
  go_wp2_with fail
  refine (HOc.out w5).mono ?_
  rintro e w6 ⟨rfl, hw6⟩
  have hw6' := hw6.symm
  clear hw6
  subst hw6'
  clear HNz HOc hand HZ
  go_wp2_with fail
  refine ⟨HR5.out, ?_⟩
  go_wp2_with fail
  refine ⟨HR5.out, ?_⟩
  simp only [QN]
  go_wp2
  exact ⟨⟨c + sm, q + 1, by go_num, by go_num, by omega, by omega, by omega, HR5⟩, by simp [intOf]; omega⟩
set_option maxRecDepth 100000 in
theorem TB.countZero (h : TB t b n wd per len X w) (lo hi : Nat) (h1 : lo ≤ hi) (h2 : hi ≤ n) : Calls Tryz.prog 160 #[.pointer (some ⟨t, 0, none⟩), .int .i64 (lo : Int), .int .i64 (hi : Int)] w fun e w' => ∃ c : Nat, e = .returned (.tuple #[.int .i64 ((hi : Int) - (lo : Int) - (c : Int)), .bool true]) ∧ c ≤ 16777216 ∧ Hid (Below w.heap.size w w') := by
  have HC := hid (h.countNonzero lo hi h1 h2)
  have hhi : hi ≤ 32768 := by have := h.k.n; omega
  clear h
  go_enter Tryz.func160, Tryz.ntmps160
  go_wp2_with fail
  refine HC.out.mono ?_
  rintro e w1 ⟨c, rfl, hc, HB⟩
  clear HC
  go_wp2
  refine bodyPost_ret (results_tmp2 Tryz.results160 _ _ _) rfl ?_
  exact ⟨c, rfl, hc, HB⟩
set_option maxRecDepth 100000 in
theorem TB.allZero (h : TB t b n wd per len X w) (lo hi : Nat) (h1 : lo ≤ hi) (h2 : hi ≤ n) : Calls Tryz.prog 261 #[.pointer (some ⟨t, 0, none⟩), .int .i64 (lo : Int), .int .i64 (hi : Int)] w fun e w' => ∃ r : Int, e = .returned (.tuple #[.bool (decide (r < 0)), .bool true]) ∧ Hid (Nx (nzP wd per X) lo hi r ∧ Below w.heap.size w w') := by
  have HC := hid (h.nextNonzero lo hi h1 h2)
  clear h
  go_enter Tryz.func261, Tryz.ntmps261
  go_wp2_with fail
  refine HC.out.mono ?_
  rintro e w1 ⟨r, rfl, HB⟩
  clear HC
  go_wp2
  refine bodyPost_ret (results_tmp2 Tryz.results261 _ _ _) rfl ?_
  exact ⟨r, rfl, HB⟩
/-- The first run of entries of which P holds. -/
def Zr (P : Nat → Bool) (lo hi : Nat) (s l : Int) : Prop := (s = -1 ∧ l = 0 ∧ ∀ i, lo ≤ i → i < hi → P i = false) ∨ ∃ k m : Nat, s = (k : Int) ∧ l = (m : Int) ∧ 1 ≤ m ∧ lo ≤ k ∧ k + m ≤ hi ∧ (∀ i, lo ≤ i → i < k → P i = false) ∧ (∀ i, k ≤ i → i < k + m → P i = true) ∧ (k + m < hi → P (k + m) = false)
theorem zr_of {lo hi k : Nat} {r : Int} (hk : lo ≤ k) (hk2 : k < hi) (hz : zrP wd per X k = true) (hb : ∀ i, lo ≤ i → i < k → zrP wd per X i = false) (hr : Nx (nzP wd per X) k hi r) : (r = -1 → Zr (zrP wd per X) lo hi (k : Int) ((hi : Int) - (k : Int))) ∧ (r ≠ -1 → (k : Int) < r ∧ r ≤ (hi : Int) ∧ Zr (zrP wd per X) lo hi (k : Int) (r - (k : Int))) := by
  have neg : ∀ i, nzP wd per X i = !(zrP wd per X i) := fun i => rfl
  rcases hr with ⟨rfl, hall⟩ | ⟨m, rfl, h1, h2, h3, h4⟩
  · refine ⟨fun _ => .inr ⟨k, hi - k, rfl, by omega, by omega, hk, by omega, hb, fun i a1 a2 => ?_, fun a => by omega⟩, fun a => absurd rfl a⟩
    have := hall i a1 (by omega)
    rw [neg] at this
    simpa using this
  · have hne : m ≠ k := fun e => by
      rw [e, neg, hz] at h3
      cases h3
    refine ⟨fun a => by omega, fun _ => ⟨by omega, by omega, .inr ⟨k, m - k, rfl, by omega, by omega, hk, by omega, hb, fun i a1 a2 => ?_, fun a => ?_⟩⟩⟩
    · have := h4 i a1 (by omega)
      rw [neg] at this
      simpa using this
    · rw [show k + (m - k) = m by omega]
      rw [neg] at h3
      simpa using h3
end
end Go.Proofs.Qxb6500887aGreat
