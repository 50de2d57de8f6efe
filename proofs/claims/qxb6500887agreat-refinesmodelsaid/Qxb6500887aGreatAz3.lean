/- indexOf, window, repeat, highestBit for tables of any width. -/
import Derived.Test.Qxb6500887aGreatAz2
import Derived.Test.Qxb6500887aGreatHeavy
namespace Go.Proofs.Qxb6500887aGreat
open Go.RowKit
set_option linter.unusedSimpArgs false
set_option linter.unusedVariables false

section
variable {t b n wd per len : Nat} {X : Nat → Nat} {w w' : World}
set_option maxRecDepth 100000 in
set_option maxHeartbeats 1000000 in
theorem TB.indexOf (h : TB t b n wd per len X w) (q y k : Nat) (hq : q < 32768) (hy : y < 18446744073709551616) (hk : k < 64) (hl : Low y k) : Calls Tryz.prog 254 #[.pointer (some ⟨t, 0, none⟩), .int .i64 (q : Int), .int .u64 (y : Int)] w fun e w' => e = .returned (.int .i64 ((per * q + k / wd : Nat) : Int)) ∧ Drew w w' := by
  have c2 := h.cells.2.2.1
  have c3 := h.cells.2.2.2.1
  have HT := hid (fun wz => trailingG y k hy hk hl wz)
  have hw := h.k.wd.mul
  have hm : (q : Int) * (per : Int) = ((per * q : Nat) : Int) := by rw [Nat.mul_comm]; simp
  have hm2 : per * q ≤ 64 * 32768 := Nat.mul_le_mul hw.2.2.1 (by omega)
  have hd : k / wd ≤ k := Nat.div_le_self _ _
  have HE : Hid (wrap64 (((per * q : Nat) : Int) + ((k / wd : Nat) : Int)) = ((per * q + k / wd : Nat) : Int)) := hid (by
    generalize per * q = z1 at *
    generalize k / wd = z2 at *
    rw [show (z1 : Int) + (z2 : Int) = ((z1 + z2 : Nat) : Int) by omega]
    exact wrap64_nat (by omega) (by omega))
  have e1 : wrap64 ((q : Int) * (per : Int)) = ((per * q : Nat) : Int) := by rw [hm]; generalize per * q = z at *; exact wrap64_nat (by omega) (by omega)
  have e2 : wrap64 ((k : Int) / (wd : Int)) = ((k / wd : Nat) : Int) := by rw [show (k : Int) / (wd : Int) = ((k / wd : Nat) : Int) by simp]; generalize k / wd = z at *; exact wrap64_nat (by omega) (by omega)
  have hwd : wrap64 (wd : Int) = (wd : Int) := wrap64_nat (by omega) (by omega)
  have hwd0 : 1 ≤ wd := hw.2.2.2.1
  have hwd4 : wd ≤ 4 := hw.2.2.2.2
  have HE1 := hid e1
  have HE2 := hid e2
  clear h hl hw hm e1 e2 hm2 hd hwd
  go_enter Tryz.func254, Tryz.ntmps254
  go_wp2_with fail
  go_quiet ((go_at_call 274; exact Calls.quiet_of_same (HT.out _)))
  rw [HE1.out, HE2.out, HE.out]
  go_wp2
  go_ret
  exact ⟨rfl, ⟨nq, rfl⟩⟩
/-- The words of a range. -/
structure Win (wd per len lo hi fw lw fm lm : Nat) : Prop where
  bfm : fm < 18446744073709551616
  blm : lm < 18446744073709551616
  le : fw ≤ lw + 1
  lt : fw ≤ lw → lw < len
  small : lw < 32768
  cs : (lo = hi ∧ fw = 1 ∧ lw = 0) ∨ (lo < hi ∧ fw = lo / per ∧ lw = (hi - 1) / per ∧ ∀ q, mAt fw lw fm lm q = mskW wd per lo hi q)
theorem TB.window_ne (h : TB t b n wd per len X w) (lo hi : Nat) (h1 : lo < hi) (h2 : hi ≤ n) : Win wd per len lo hi (lo / per) ((hi - 1) / per) (bM (lo % per * wd) 64) (bM 0 ((hi - 1) % per * wd + wd)) := by
  have hw := h.k.wd
  have hd := h.k.div (i := hi - 1) (by omega)
  have hs := h.k.small
  refine ⟨mk_lt (by omega), mk_lt (by rcases hw with ⟨rfl, rfl⟩ | ⟨rfl, rfl⟩ | ⟨rfl, rfl⟩ <;> omega), ?_, fun _ => hd, by omega, .inr ⟨h1, rfl, rfl, fun q => rfl⟩⟩
  have : lo / per ≤ (hi - 1) / per := Nat.div_le_div_right (by omega)
  omega
theorem xor_F64 {x : Nat} (hx : x < 18446744073709551616) : bits .xor .u64 18446744073709551615 (x : Int) = ((18446744073709551615 - x : Nat) : Int) := by
  rw [u64_xor _ _ (by decide) (by decide) (Int.natCast_nonneg _) (by omega)]
  show ((18446744073709551615 ^^^ x : Nat) : Int) = _
  congr 1
  rw [Nat.xor_comm]
  apply Nat.eq_of_testBit_eq
  intro i
  rw [testBit_not x i (by omega), Nat.testBit_xor, show (18446744073709551615 : Nat) = 2 ^ 64 - 1 from rfl, testBit_mask]
  by_cases h64 : i < 64
  · simp [h64]
  · simp only [h64, decide_false, Bool.false_and, Bool.xor_false]
    exact testBit_high hx (Nat.le_of_not_lt h64)
theorem not_mk0 {k : Nat} (hk : k ≤ 64) : 18446744073709551615 - bM 0 k = bM k 64 := by
  have h1 : (2 : Nat) ^ k ≤ 2 ^ 64 := Nat.pow_le_pow_right (by decide) hk
  have h2 : 0 < (2 : Nat) ^ k := Nat.pow_pos (by decide)
  have h3 : (2 : Nat) ^ 64 = 18446744073709551616 := rfl
  unfold bM
  rw [Nat.pow_zero]
  omega
set_option maxRecDepth 100000 in
set_option maxHeartbeats 2000000 in
theorem TB.window1 (h : TB t b n wd per len X w) (lo hi : Nat) (h1 : lo < hi) (h2 : hi ≤ n) : Calls Tryz.prog 220 #[.pointer (some ⟨t, 0, none⟩), .int .i64 (lo : Int), .int .i64 (hi : Int)] w fun e w' => e = .returned (.agg #[.int .i64 ((lo / per : Nat) : Int), .int .i64 (((hi - 1) / per : Nat) : Int), .int .u64 ((bM (lo % per * wd) 64 : Nat) : Int), .int .u64 ((bM 0 ((hi - 1) % per * wd + wd) : Nat) : Int)]) ∧ Below w.heap.size w w' := by
  have HT := hid h
  have hwd := h.k.wd
  have hn := h.k.n
  have HLo := hid (fun (wz : World) (hz : Below w.heap.size w wz) => (h.below hz).locate lo (by omega))
  have HHi := hid (fun (wz : World) (hz : Below w.heap.size w wz) => (h.below hz).locate (hi - 1) (by omega))
  have hfs2 : lo % per * wd < 64 := by rcases hwd with ⟨rfl, rfl⟩ | ⟨rfl, rfl⟩ | ⟨rfl, rfl⟩ <;> omega
  have hls2 : (hi - 1) % per * wd + wd ≤ 64 := by rcases hwd with ⟨rfl, rfl⟩ | ⟨rfl, rfl⟩ | ⟨rfl, rfl⟩ <;> omega
  have HB1 := hid (fun wz => lowBitsG (lo % per * wd) (by omega) wz)
  have HB2 := hid (fun wz => lowBitsG ((hi - 1) % per * wd + wd) hls2 wz)
  have hm1 : bM 0 (lo % per * wd) < 18446744073709551616 := mk_lt (by omega)
  have HXr := hid (xor_F64 hm1)
  rw [not_mk0 (by omega)] at HXr
  have dne : ((lo : Int) == (hi : Int)) = false := by simp; omega
  have hsub : (hi : Int) - 1 = ((hi - 1 : Nat) : Int) := by omega
  have hwd4 : wd ≤ 4 := hwd.mul.2.2.2.2
  have Iw := hid info_win
  obtain ⟨fw, hfw⟩ : ∃ x, lo / per = x := ⟨_, rfl⟩
  obtain ⟨lw, hlw⟩ : ∃ x, (hi - 1) / per = x := ⟨_, rfl⟩
  obtain ⟨fs, hfs⟩ : ∃ x, lo % per * wd = x := ⟨_, rfl⟩
  obtain ⟨ls, hls⟩ : ∃ x, (hi - 1) % per * wd = x := ⟨_, rfl⟩
  rw [hfs] at hfs2 HB1 HXr hm1
  rw [hls] at hls2 HB2
  rw [hfw, hfs] at HLo
  rw [hlw, hls] at HHi
  rw [hfw, hlw, hfs, hls]
  obtain ⟨ls4, hls4⟩ : ∃ x, ls + wd = x := ⟨_, rfl⟩
  have hls3 : (ls : Int) + (wd : Int) = (ls4 : Int) := by omega
  rw [hls4] at HB2 hls2 ⊢
  generalize bM 0 fs = M1 at *
  generalize bM fs 64 = M2 at *
  generalize bM 0 ls4 = M3 at *
  have hi1 : hi - 1 < 32768 := by omega
  obtain ⟨h_, hh_⟩ : ∃ x, hi - 1 = x := ⟨_, rfl⟩
  rw [hh_] at hi1 HHi hsub
  clear hfw hlw hfs hls hwd h
  obtain ⟨p, hp⟩ : ∃ p, w.heap.size = p := ⟨_, rfl⟩
  go_enter Tryz.func220, Tryz.ntmps220
  go_upto_region 1 with fail
  obtain ⟨w2, hw2⟩ : ∃ w2, w.alloc (.cells #[.int .i64 0, .int .i64 0, .int .u64 0, .int .u64 0] 222) = w2 := ⟨_, rfl⟩
  have HB0 : Hid (Below w.heap.size w w2 ∧ Blk w2 p 222 [.int .i64 0, .int .i64 0, .int .u64 0, .int .u64 0]) := hid (by
    have k1 := Blk.new w [.int .i64 0, .int .i64 0, .int .u64 0, .int .u64 0] 222
    rw [hp] at k1
    rw [← hw2]
    exact ⟨(Below.refl _ w).alloc (Nat.le_refl _) _, k1⟩)
  (try simp only [hw2])
  clear hw2
  go_wp2_with fail
  refine (HLo.out _ HB0.out.1).mono ?_
  rintro e w3 ⟨rfl, hd3⟩
  have H3 : Hid (Below w.heap.size w w3 ∧ Blk w3 p 222 [.int .i64 0, .int .i64 0, .int .u64 0, .int .u64 0]) := hid ⟨HB0.out.1.trans (hd3.below _), HB0.out.2.drew hd3⟩
  clear hd3
  go_wp2_with fail
  refine (HHi.out _ H3.out.1).mono ?_
  rintro e w4 ⟨rfl, hd4⟩
  have H4 : Hid (Below w.heap.size w w4 ∧ Blk w4 p 222 [.int .i64 0, .int .i64 0, .int .u64 0, .int .u64 0]) := hid ⟨H3.out.1.trans (hd4.below _), H3.out.2.drew hd4⟩
  clear hd4 H3 HB0 HLo HHi
  go_upto_region 5 with fail
  refine wp_region_heavy (fun w9 => Below w.heap.size w w9) 13 [0, 1, 2, 3, 4, 5, 6, 7, 8, 9, 10, 11, 12] [] rfl (by kernel_rfl) (by kernel_rfl) (fun d _ _ _ _ h => by cases d <;> exact h) (H4.out.1.trans (Drew.below ⟨1, rfl⟩ _)) ?_
  apply Exists.intro
  refine ⟨?_, ?_⟩
  · intro W hW
    have c2 : ∀ u, (W u).cell? ⟨t, 2, none⟩ = some (.int .u64 (wd : Int)) := fun u => (HT.out.below (hW u)).cells.2.2.1
    clear hW
    simp only [List.take, opsAt, List.drop, List.cons_append, List.nil_append]
    repeat (go_big_quiet_step ((go_at_call 219; first | (with_reducible exact Calls.class_same (HB1.out _)) | (with_reducible exact Calls.class_same (HB2.out _)))))
    exact rfl
  simp only [List.take, List.drop, opsAt, List.cons_append, List.nil_append, wpHv, QN]
  have H5 : Hid (Below w.heap.size w w4.drew ∧ Blk w4.drew p 222 [.int .i64 0, .int .i64 0, .int .u64 0, .int .u64 0]) := hid ⟨H4.out.1.trans (Drew.below ⟨1, rfl⟩ _), H4.out.2.below (Drew.below ⟨1, rfl⟩ _)⟩
  generalize w4.drew = w5 at H5 ⊢
  clear H4
  have e9 : bits .xor .u64 (if IntKind.u64.signed = true then -1 else IntKind.u64.max) (M1 : Int) = (M2 : Int) := HXr.out
  rw [e9]
  clear HXr e9
  have b2 := H5.out.2
  have k1 := b2.set 0 (.int .i64 (fw : Int))
  have k2 := k1.set 1 (.int .i64 (lw : Int))
  have k3 := k2.set 2 (.int .u64 (M2 : Int))
  have k4 := k3.set 3 (.int .u64 (M3 : Int))
  have f0 := b2.frozen 0
  have f1 := k1.frozen 1
  have f2 := k2.frozen 2
  have f3 := k3.frozen 3
  have z0 := b2.cell 0
  have z1 := k1.cell 1
  have z2 := k2.cell 2
  have z3 := k3.cell 3
  simp only [List.set_cons_zero, List.set_cons_succ, List.getElem?_cons_zero, List.getElem?_cons_succ] at z0 z1 z2 z3
  have HK := hid k4
  have HF : Hid (Below w.heap.size w ((((w5.setCell ⟨p, 0, none⟩ (.int .i64 (fw : Int))).setCell ⟨p, 1, none⟩ (.int .i64 (lw : Int))).setCell ⟨p, 2, none⟩ (.int .u64 (M2 : Int))).setCell ⟨p, 3, none⟩ (.int .u64 (M3 : Int)))) := hid (by
    have hu : Upd p w5 ((((w5.setCell ⟨p, 0, none⟩ (.int .i64 (fw : Int))).setCell ⟨p, 1, none⟩ (.int .i64 (lw : Int))).setCell ⟨p, 2, none⟩ (.int .u64 (M2 : Int))).setCell ⟨p, 3, none⟩ (.int .u64 (M3 : Int))) := ((((Upd.refl p w5).setCell rfl _).setCell rfl _).setCell rfl _).setCell rfl _
    exact H5.out.1.trans (hu.below (by omega) H5.out.1.size))
  clear b2 k1 k2 k3 k4 H5
  go_wp2
  refine bodyPost_ret (results_blk (cs := [.int .i64 (fw : Int), .int .i64 (lw : Int), .int .u64 (M2 : Int), .int .u64 (M3 : Int)]) Tryz.results220 rfl Iw.out HK.out) rfl ?_
  exact ⟨rfl, HF.out⟩
set_option maxRecDepth 100000 in
set_option maxHeartbeats 2000000 in
theorem window0 (t lo : Nat) (w : World) : Calls Tryz.prog 220 #[.pointer (some ⟨t, 0, none⟩), .int .i64 (lo : Int), .int .i64 (lo : Int)] w fun e w' => e = .returned (.agg #[.int .i64 ((1 : Nat) : Int), .int .i64 ((0 : Nat) : Int), .int .u64 ((0 : Nat) : Int), .int .u64 ((0 : Nat) : Int)]) ∧ Below w.heap.size w w' := by
  have Iw := hid info_win
  obtain ⟨p, hp⟩ : ∃ p, w.heap.size = p := ⟨_, rfl⟩
  go_enter Tryz.func220, Tryz.ntmps220
  go_upto_region 1 with fail
  obtain ⟨w2, hw2⟩ : ∃ w2, w.alloc (.cells #[.int .i64 0, .int .i64 0, .int .u64 0, .int .u64 0] 222) = w2 := ⟨_, rfl⟩
  have HB0 : Hid (Below w.heap.size w w2 ∧ Blk w2 p 222 [.int .i64 0, .int .i64 0, .int .u64 0, .int .u64 0] ∧ w.heap.size ≤ p) := hid (by
    have k1 := Blk.new w [.int .i64 0, .int .i64 0, .int .u64 0, .int .u64 0] 222
    rw [hp] at k1
    rw [← hw2]
    exact ⟨(Below.refl _ w).alloc (Nat.le_refl _) _, k1, by omega⟩)
  (try simp only [hw2])
  clear hw2 hp
  have b2 := HB0.out.2.1
  have k1 := b2.set 0 (.int .i64 1)
  have k2 := k1.set 1 (.int .i64 0)
  have k3 := k2.set 2 (.int .u64 0)
  have k4 := k3.set 3 (.int .u64 0)
  have f0 := b2.frozen 0
  have f1 := k1.frozen 1
  have f2 := k2.frozen 2
  have f3 := k3.frozen 3
  have z0 := b2.cell 0
  have z1 := k1.cell 1
  have z2 := k2.cell 2
  have z3 := k3.cell 3
  simp only [List.set_cons_zero, List.set_cons_succ, List.getElem?_cons_zero, List.getElem?_cons_succ] at z0 z1 z2 z3
  have HK := hid k4
  have HF : Hid (Below w.heap.size w ((((w2.setCell ⟨p, 0, none⟩ (.int .i64 1)).setCell ⟨p, 1, none⟩ (.int .i64 0)).setCell ⟨p, 2, none⟩ (.int .u64 0)).setCell ⟨p, 3, none⟩ (.int .u64 0))) := hid (by
    have hu : Upd p w2 ((((w2.setCell ⟨p, 0, none⟩ (.int .i64 1)).setCell ⟨p, 1, none⟩ (.int .i64 0)).setCell ⟨p, 2, none⟩ (.int .u64 0)).setCell ⟨p, 3, none⟩ (.int .u64 0)) := ((((Upd.refl p w2).setCell rfl _).setCell rfl _).setCell rfl _).setCell rfl _
    exact HB0.out.1.trans (hu.below HB0.out.2.2 HB0.out.1.size))
  clear b2 k1 k2 k3 k4 HB0
  have d0 : ((lo : Int) == (lo : Int)) = true := by simp
  go_wp2
  refine bodyPost_ret (results_blk (cs := [.int .i64 1, .int .i64 0, .int .u64 0, .int .u64 0]) Tryz.results220 rfl Iw.out HK.out) rfl ?_
  exact ⟨rfl, HF.out⟩
/-- The window of a range, empty or not. -/
theorem TB.window (h : TB t b n wd per len X w) (lo hi : Nat) (h1 : lo ≤ hi) (h2 : hi ≤ n) : ∃ fw lw fm lm : Nat, Win wd per len lo hi fw lw fm lm ∧ ∀ wz, TB t b n wd per len X wz → Calls Tryz.prog 220 #[.pointer (some ⟨t, 0, none⟩), .int .i64 (lo : Int), .int .i64 (hi : Int)] wz fun e w' => e = .returned (.agg #[.int .i64 (fw : Int), .int .i64 (lw : Int), .int .u64 (fm : Int), .int .u64 (lm : Int)]) ∧ Below wz.heap.size wz w' := by
  rcases Nat.lt_or_ge lo hi with h3 | h3
  · exact ⟨_, _, _, _, h.window_ne lo hi h3 h2, fun wz hz => hz.window1 lo hi h3 h2⟩
  · obtain rfl : lo = hi := by omega
    exact ⟨1, 0, 0, 0, ⟨by decide, by decide, by omega, fun h => by omega, by omega, .inl ⟨rfl, rfl, rfl⟩⟩, fun wz _ => window0 t lo wz⟩
theorem pat_lt {v : Nat} (hw : Wd wd per) (hv : v ≤ 2 ^ wd - 1) : v * onW wd < 18446744073709551616 := by
  have h1 : v * onW wd ≤ (2 ^ wd - 1) * onW wd := Nat.mul_le_mul_right _ hv
  have h2 : (2 ^ wd - 1) * onW wd = 18446744073709551615 := by rcases hw with ⟨rfl, rfl⟩ | ⟨rfl, rfl⟩ | ⟨rfl, rfl⟩ <;> rfl
  omega
set_option maxRecDepth 100000 in
theorem TB.repeat (h : TB t b n wd per len X w) (v : Nat) (hv : v ≤ 2 ^ wd - 1) : Calls Tryz.prog 221 #[.pointer (some ⟨t, 0, none⟩), .int .u64 (v : Int)] w fun e w' => e = .returned (.int .u64 ((v * onW wd : Nat) : Int)) ∧ w' = w := by
  have c5 := h.cells.2.2.2.2.2
  have HE : Hid (IntKind.u64.wrap ((v : Int) * ((onW wd : Nat) : Int)) = ((v * onW wd : Nat) : Int)) := hid (by
    have h1 := pat_lt h.k.wd hv
    rw [show (v : Int) * ((onW wd : Nat) : Int) = ((v * onW wd : Nat) : Int) by simp]
    generalize v * onW wd = z at *
    exact u64_nat (by omega) (by omega))
  clear h
  generalize v * onW wd = z at *
  generalize onW wd = o at *
  go_enter Tryz.func221, Tryz.ntmps221
  go_wp2
  rw [HE.out]
  go_ret
  exact ⟨rfl, rfl⟩
end
end Go.Proofs.Qxb6500887aGreat
