/- window, CountEqual, CountNonzero, CountZero, IncRange, DecRange (written by tools/mk_rng.py). -/
import Derived.Test.Qxb6500887aGreatArRng
namespace Go.Proofs.Qxb6500887aGreat
open Go.RowKit
set_option linter.unusedSimpArgs false
set_option linter.unusedVariables false

theorem info_win : AggOf Tryz.prog 222 4 := AggOf.struct Tryz.underlying222 (by kernel_rfl)
theorem T4.locate {w : World} {t b : Nat} {f : Nat → Nat} (h : T4 t b f w) (i : Nat) (hi : i < 2048) : Calls Tryz.prog 213 #[.pointer (some ⟨t, 0, none⟩), .int .i64 (i : Int)] w fun e w' => e = .returned (.tuple #[.int .i64 ((i / 16 : Nat) : Int), .int .u64 ((i % 16 * 4 : Nat) : Int)]) ∧ Drew w w' := by
  obtain ⟨l, k1, _⟩ := h.ws
  exact tabLocate_walk k1 i hi (by omega) (by omega) (by omega) (by omega) (by omega)
section
variable {w : World} {t b : Nat} {f : Nat → Nat}
set_option maxRecDepth 100000 in
set_option maxHeartbeats 2000000 in
theorem window_walk (h : T4 t b f w) (lo hi : Nat) (h1 : lo < hi) (h2 : hi ≤ 2048) : Calls Tryz.prog 220 #[.pointer (some ⟨t, 0, none⟩), .int .i64 (lo : Int), .int .i64 (hi : Int)] w fun e w' => e = .returned (winV lo hi) ∧ Below w.heap.size w w' := by
  have HT := hid h
  have HLo := hid (fun (wz : World) (hz : Below w.heap.size w wz) => (h.below hz).locate lo (by omega))
  have HHi := hid (fun (wz : World) (hz : Below w.heap.size w wz) => (h.below hz).locate (hi - 1) (by omega))
  have HB1 := hid (fun wz => lowB_walk (lo % 16) (by omega) wz)
  have HB2 := hid (fun wz => lowB_walk ((hi - 1) % 16 + 1) (by omega) wz)
  have HNm := hid (not_msk (lo % 16) (by omega))
  have hm1 := (msk_and (a := 0) (b := lo % 16) (by omega) (by omega)).2.2
  have dne : ((lo : Int) == (hi : Int)) = false := by simp; omega
  have hsub : (hi : Int) - 1 = ((hi - 1 : Nat) : Int) := by omega
  have ha4 : (((hi - 1) % 16 * 4 : Nat) : Int) + 4 = ((((hi - 1) % 16 + 1) * 4 : Nat) : Int) := by omega
  have Iw := hid info_win
  unfold winV
  obtain ⟨fw, hfw⟩ : ∃ x, lo / 16 = x := ⟨_, rfl⟩
  obtain ⟨lw, hlw⟩ : ∃ x, (hi - 1) / 16 = x := ⟨_, rfl⟩
  obtain ⟨fs, hfs⟩ : ∃ x, lo % 16 * 4 = x := ⟨_, rfl⟩
  obtain ⟨ls, hls⟩ : ∃ x, (hi - 1) % 16 * 4 = x := ⟨_, rfl⟩
  obtain ⟨ls4, hls4⟩ : ∃ x, ((hi - 1) % 16 + 1) * 4 = x := ⟨_, rfl⟩
  have hfs2 : fs < 64 := by omega
  have hls2 : ls < 64 := by omega
  have hls3 : (ls : Int) + 4 = (ls4 : Int) := by omega
  rw [hfw, hfs] at HLo
  rw [hlw, hls] at HHi
  rw [hfs] at HB1
  rw [hls4] at HB2
  rw [hfw, hlw]
  generalize msk 0 (lo % 16) = M1 at *
  generalize msk (lo % 16) 16 = M2 at *
  generalize msk 0 ((hi - 1) % 16 + 1) = M3 at *
  have hx : bits .xor .u64 (if IntKind.u64.signed = true then -1 else IntKind.u64.max) (M1 : Int) = (M2 : Int) ∧ True := ⟨by
    show bits .xor .u64 18446744073709551615 (M1 : Int) = (M2 : Int)
    rw [u64_xor _ _ (by decide) (by decide) (Int.natCast_nonneg _) (by have := hm1; clear HLo HHi HB1 HB2; omega), ← HNm.out]
    show ((18446744073709551615 ^^^ M1 : Nat) : Int) = _
    congr 1
    rw [Nat.xor_comm]
    apply Nat.eq_of_testBit_eq
    intro i
    rw [testBit_not M1 i (by omega), Nat.testBit_xor, show (18446744073709551615 : Nat) = 2 ^ 64 - 1 from rfl, testBit_mask]
    by_cases h64 : i < 64
    · simp [h64]
    · simp only [h64, decide_false, Bool.false_and, Bool.xor_false]
      exact Nat.testBit_lt_two_pow (Nat.lt_of_lt_of_le (show M1 < 2 ^ 64 from hm1) (Nat.pow_le_pow_right (by decide) (Nat.le_of_not_lt h64)))
    , trivial⟩
  have HXr := hid hx.1
  have hi1 : hi - 1 < 2048 := by omega
  obtain ⟨h_, hh_⟩ : ∃ x, hi - 1 = x := ⟨_, rfl⟩
  rw [hh_] at hi1 HHi hsub
  clear hx hfw hlw hfs hls hls4 ha4 HNm h
  obtain ⟨p, hp⟩ : ∃ p, w.heap.size = p := ⟨_, rfl⟩
  go_enter Tryz.func220, Tryz.ntmps220
  go_upto_region 1 with fail
  obtain ⟨w2, hw2⟩ : ∃ w2, w.alloc (.cells #[.int .i64 0, .int .i64 0, .int .u64 0, .int .u64 0] 222) = w2 := ⟨_, rfl⟩
  have HB0 : Hid (Below w.heap.size w w2 ∧ Blk w2 p 222 [.int .i64 0, .int .i64 0, .int .u64 0, .int .u64 0]) := hid (by
    have k1 := Blk.new w [.int .i64 0, .int .i64 0, .int .u64 0, .int .u64 0] 222
    rw [hp] at k1
    rw [← hw2]
    exact ⟨(Below.refl _ w).alloc (Nat.le_refl _) _, k1⟩)
  (try simp only [hw2])
  clear hw2
  go_wp2_with fail
  refine (HLo.out _ HB0.out.1).mono ?_
  rintro e w3 ⟨rfl, hd3⟩
  have H3 : Hid (Below w.heap.size w w3 ∧ Blk w3 p 222 [.int .i64 0, .int .i64 0, .int .u64 0, .int .u64 0]) := hid ⟨HB0.out.1.trans (hd3.below _), HB0.out.2.drew hd3⟩
  clear hd3
  go_wp2_with fail
  refine (HHi.out _ H3.out.1).mono ?_
  rintro e w4 ⟨rfl, hd4⟩
  have H4 : Hid (Below w.heap.size w w4 ∧ Blk w4 p 222 [.int .i64 0, .int .i64 0, .int .u64 0, .int .u64 0]) := hid ⟨H3.out.1.trans (hd4.below _), H3.out.2.drew hd4⟩
  clear hd4 H3 HB0 HLo HHi
  go_upto_region 5 with fail
  refine wp_region_heavy (fun w9 => Below w.heap.size w w9) 13 [0, 1, 2, 3, 4, 5, 6, 7, 8, 9, 10, 11, 12] [] rfl (by kernel_rfl) (by kernel_rfl) (fun d _ _ _ _ h => by cases d <;> exact h) (H4.out.1.trans (Drew.below ⟨1, rfl⟩ _)) ?_
  apply Exists.intro
  refine ⟨?_, ?_⟩
  · intro W hW
    have c2 : ∀ u, (W u).cell? ⟨t, 2, none⟩ = some (.int .u64 4) := fun u => by
      obtain ⟨l, k1, _⟩ := (HT.out.below (hW u)).ws
      exact k1.tb.cell 2
    clear hW
    simp only [List.take, opsAt, List.drop, List.cons_append, List.nil_append]
    repeat (go_big_quiet_step ((go_at_call 219; first | (with_reducible exact Calls.class_same (HB1.out _)) | (with_reducible exact Calls.class_same (HB2.out _)))))
    exact rfl
  simp only [List.take, List.drop, opsAt, List.cons_append, List.nil_append, wpHv, QN]
  have H5 : Hid (Below w.heap.size w w4.drew ∧ Blk w4.drew p 222 [.int .i64 0, .int .i64 0, .int .u64 0, .int .u64 0]) := hid ⟨H4.out.1.trans (Drew.below ⟨1, rfl⟩ _), H4.out.2.below (Drew.below ⟨1, rfl⟩ _)⟩
  generalize w4.drew = w5 at H5 ⊢
  clear H4
  rw [HXr.out]
  clear HXr
  have b2 := H5.out.2
  have k1 := b2.set 0 (.int .i64 (fw : Int))
  have k2 := k1.set 1 (.int .i64 (lw : Int))
  have k3 := k2.set 2 (.int .u64 (M2 : Int))
  have k4 := k3.set 3 (.int .u64 (M3 : Int))
  have f0 := b2.frozen 0
  have f1 := k1.frozen 1
  have f2 := k2.frozen 2
  have f3 := k3.frozen 3
  have z0 := b2.cell 0
  have z1 := k1.cell 1
  have z2 := k2.cell 2
  have z3 := k3.cell 3
  simp only [List.set_cons_zero, List.set_cons_succ, List.getElem?_cons_zero, List.getElem?_cons_succ] at z0 z1 z2 z3
  have HK := hid k4
  have HF : Hid (Below w.heap.size w ((((w5.setCell ⟨p, 0, none⟩ (.int .i64 (fw : Int))).setCell ⟨p, 1, none⟩ (.int .i64 (lw : Int))).setCell ⟨p, 2, none⟩ (.int .u64 (M2 : Int))).setCell ⟨p, 3, none⟩ (.int .u64 (M3 : Int)))) := hid (by
    have hu : Upd p w5 ((((w5.setCell ⟨p, 0, none⟩ (.int .i64 (fw : Int))).setCell ⟨p, 1, none⟩ (.int .i64 (lw : Int))).setCell ⟨p, 2, none⟩ (.int .u64 (M2 : Int))).setCell ⟨p, 3, none⟩ (.int .u64 (M3 : Int))) := ((((Upd.refl p w5).setCell rfl _).setCell rfl _).setCell rfl _).setCell rfl _
    exact H5.out.1.trans (hu.below (by omega) H5.out.1.size))
  clear b2 k1 k2 k3 k4 H5
  go_wp2
  refine bodyPost_ret (results_blk (cs := [.int .i64 (fw : Int), .int .i64 (lw : Int), .int .u64 (M2 : Int), .int .u64 (M3 : Int)]) Tryz.results220 rfl Iw.out HK.out) rfl ?_
  exact ⟨rfl, HF.out⟩
def winL (lo hi : Nat) : List Value := [.int .i64 ((lo / 16 : Nat) : Int), .int .i64 (((hi - 1) / 16 : Nat) : Int), .int .u64 ((msk (lo % 16) 16 : Nat) : Int), .int .u64 ((msk 0 ((hi - 1) % 16 + 1) : Nat) : Int)]
/-- Inside a range operation: the table, the window in the block p. -/
structure RW (w0 : World) (t b : Nat) (f : Nat → Nat) (p lo hi : Nat) (w : World) : Prop where
  t4 : T4 t b f w
  bel : Below w0.heap.size w0 w
  pk : Blk w p 222 (winL lo hi)
theorem RW.below {w0 w' : World} {p lo hi : Nat} (h : RW w0 t b f p lo hi w) (hb : Below w.heap.size w w') : RW w0 t b f p lo hi w' := ⟨h.t4.below hb, h.bel.trans (hb.mono h.bel.size), h.pk.below hb⟩
set_option maxRecDepth 100000 in
theorem repeat_walk (h : T4 t b f w) : Calls Tryz.prog 221 #[.pointer (some ⟨t, 0, none⟩), .int .u64 15] w fun e w' => e = .returned (.int .u64 18446744073709551615) ∧ w' = w := by
  obtain ⟨l, k1, _⟩ := h.ws
  have c5 : w.cell? ⟨t, 5, none⟩ = some (.int .u64 1229782938247303441) := k1.tb.cell 5
  clear k1 h
  go_enter Tryz.func221, Tryz.ntmps221
  go_wp2
  go_ret
  exact ⟨rfl, rfl⟩
theorem T4.word (h : T4 t b f w) {q : Nat} (hq : q < 128) : ∃ x, x < 18446744073709551616 ∧ (∀ j, j < 16 → nib x j = f (16 * q + j)) ∧ w.cell? ⟨b, q, none⟩ = some (.int .u64 (x : Int)) ∧ w.frozen? ⟨b, q, none⟩ = false := by
  obtain ⟨l, k1, k2, k3⟩ := h.ws
  obtain ⟨x, g1, g2, g3⟩ := k3 q hq
  exact ⟨x, g2, g3, k1.word g1, k1.wb.frozen _⟩
theorem T4.tab (h : T4 t b f w) : w.cell? ⟨t, 0, none⟩ = some (.slice (some ⟨b, 0, none⟩) 128 128) ∧ w.cell? ⟨t, 4, none⟩ = some (.int .u64 15) ∧ w.cell? ⟨t, 5, none⟩ = some (.int .u64 1229782938247303441) := by
  obtain ⟨l, k1, k2, k3⟩ := h.ws
  have := k1.tb.cell 0
  rw [k2] at this
  exact ⟨this, k1.tb.cell 4, k1.tb.cell 5⟩
theorem cnt_begin {P : Nat → Bool} {lo hi : Nat} {g : Nat → Bool} (hP : P = fun i => inR lo hi i && g i) : cnt P (16 * (lo / 16)) = 0 := by
  rw [hP]
  refine cnt_zero fun i hlt => ?_
  have : inR lo hi i = false := by
    cases hr : inR lo hi i
    · rfl
    · have := inR_iff.1 hr
      omega
  simp only [this, Bool.false_and]
theorem cnt_end {P : Nat → Bool} {lo hi : Nat} {g : Nat → Bool} (hP : P = fun i => inR lo hi i && g i) (h2 : hi ≤ 2048) : cnt P (16 * ((hi - 1) / 16 + 1)) = cnt P 2048 ∧ cnt P 2048 ≤ hi - lo := by
  have e : cnt P (16 * ((hi - 1) / 16 + 1)) = cnt P 2048 := by
    have key : ∀ k, cnt P (16 * ((hi - 1) / 16 + 1) + k) = cnt P (16 * ((hi - 1) / 16 + 1)) := fun k => by
      induction k with
      | zero => rfl
      | succ k ih =>
        show cnt P (16 * ((hi - 1) / 16 + 1) + k) + (P (16 * ((hi - 1) / 16 + 1) + k)).toNat = _
        have : inR lo hi (16 * ((hi - 1) / 16 + 1) + k) = false := by
          cases hr : inR lo hi (16 * ((hi - 1) / 16 + 1) + k)
          · rfl
          · have := inR_iff.1 hr
            omega
        have e2 : P (16 * ((hi - 1) / 16 + 1) + k) = false := by rw [hP]; simp only [this, Bool.false_and]
        rw [ih, e2]
        rfl
    by_cases hh : 1 ≤ hi
    · have := key (2048 - 16 * ((hi - 1) / 16 + 1))
      rw [← this]
      congr 1
      omega
    · have h0 : hi = 0 := by omega
      subst h0
      have z : ∀ h, cnt P h = 0 := fun h => cnt_zero (fun i _ => by
        rw [hP]
        have : inR lo 0 i = false := by
          cases hr : inR lo 0 i
          · rfl
          · have := inR_iff.1 hr
            omega
        simp only [this, Bool.false_and])
      rw [z, z]
  refine ⟨e, ?_⟩
  have := cnt_le (P := P) (Q := fun i => decide (lo ≤ i) && decide (i < hi)) (h := 2048) (fun i _ hp => by
    rw [hP] at hp
    exact ((Bool.and_eq_true _ _).mp hp).1)
  rw [cnt_range] at this
  omega
set_option maxRecDepth 100000 in
set_option maxHeartbeats 2000000 in
theorem countEq_walk (h : T4 t b f w) (lo hi : Nat) (h1 : lo < hi) (h2 : hi ≤ 2048) : Calls Tryz.prog 262 #[.pointer (some ⟨t, 0, none⟩), .int .i64 (lo : Int), .int .i64 (hi : Int), .int .u64 15] w fun e w' => (∃ c : Nat, e = .returned (.tuple #[.int .i64 ((hi : Int) - (lo : Int) - (c : Int)), .bool true]) ∧ Hid (c = cnt (fun i => inR lo hi i && !(f i == 15)) 2048 ∧ c ≤ hi - lo)) ∧ Below w.heap.size w w' := by
  have HT := hid h
  have HH := hid (hasRange_walk h lo hi (by omega) h2)
  have HW := hid (fun (wz : World) (hz : Below w.heap.size w wz) => window_walk (h.below hz) lo hi h1 h2)
  have HMa := hid (fun (q : Nat) (hq : q < 128) (wz : World) => maskAt_walk lo hi q wz hq (by omega) h2)
  obtain ⟨P, hP⟩ : ∃ P : Nat → Bool, P = fun i => inR lo hi i && !(f i == 15) := ⟨_, rfl⟩
  have HC0 := hid (cnt_begin hP)
  have HCe := hid (cnt_end hP h2)
  have HP := hid hP
  have HX : Hid (∀ c : Nat, c = cnt P 2048 ∧ c ≤ hi - lo → c = cnt (fun i => inR lo hi i && !(f i == 15)) 2048 ∧ c ≤ hi - lo) := hid (fun c hc => by rw [← hP]; exact hc)
  have h16 : lo / 16 < 128 := by omega
  have h17 : (hi - 1) / 16 < 128 := by omega
  have h18 : lo / 16 ≤ (hi - 1) / 16 := by omega
  have HWd : Hid (∀ q x, lo / 16 ≤ q → q ≤ (hi - 1) / 16 → (∀ j, j < 16 → nib x j = f (16 * q + j)) → cnt P (16 * (q + 1)) = cnt P (16 * q) + sumN (nz ((x ^^^ full4) &&& mW lo hi q)) ∧ (∀ j, j < 16 → nib (nz ((x ^^^ full4) &&& mW lo hi q)) j ≤ 1) ∧ sumN (nz ((x ^^^ full4) &&& mW lo hi q)) ≤ 16) := hid (fun q x g1 g2 g3 => by
    refine cnt_word fun j hj => ?_
    rw [hP]
    exact word_eq h1 g1 g2 g3 j hj)
  have dle : decide ((lo : Int) ≤ (hi : Int)) = true := decide_eq_true (by omega)
  clear h hP
  have hhi : hi ≤ 2048 := h2
  have hlo : lo < hi := h1
  obtain ⟨fw, hfw⟩ : ∃ x, lo / 16 = x := ⟨_, rfl⟩
  obtain ⟨lw, hlw⟩ : ∃ x, (hi - 1) / 16 = x := ⟨_, rfl⟩
  have HWL : Hid (winL lo hi = [.int .i64 (fw : Int), .int .i64 (lw : Int), .int .u64 ((msk (lo % 16) 16 : Nat) : Int), .int .u64 ((msk 0 ((hi - 1) % 16 + 1) : Nat) : Int)]) := hid (by unfold winL; rw [hfw, hlw])
  unfold winV at HW
  rw [hfw, hlw] at HW HMa h18
  rw [hfw] at HC0 h16
  rw [hlw] at HCe h17
  rw [hfw, hlw] at HWd
  obtain ⟨M1, hM1⟩ : ∃ x, msk (lo % 16) 16 = x := ⟨_, rfl⟩
  obtain ⟨M2, hM2⟩ : ∃ x, msk 0 ((hi - 1) % 16 + 1) = x := ⟨_, rfl⟩
  rw [hM1, hM2] at HW HMa HWL
  clear hfw hlw hM1 hM2 h1 h2
  have c4 : w.cell? ⟨t, 4, none⟩ = some (.int .u64 15) := HT.out.tab.2.1
  go_enter Tryz.func262, Tryz.ntmps262
  go_wp2_with fail
  refine HH.out.mono ?_
  rintro e w1 ⟨rfl, hw1⟩
  have hw1' := hw1.symm
  clear hw1
  subst hw1'
  go_wp2_with fail
  refine (HW.out w (Below.refl _ _)).mono ?_
  rintro e w2 ⟨rfl, hb2⟩
  have HB2 := hid hb2
  clear hb2 HW HH c4
  obtain ⟨p, hp⟩ : ∃ p, w2.heap.size = p := ⟨_, rfl⟩
  go_upto_region 4 with fail
  obtain ⟨w3, hw3⟩ : ∃ w3, w2.alloc (.cells #[.int .i64 (fw : Int), .int .i64 (lw : Int), .int .u64 (M1 : Int), .int .u64 (M2 : Int)] 222) = w3 := ⟨_, rfl⟩
  have HR3 : Hid (RW w t b f p lo hi w3) := hid (by
    have k1 := Blk.new w2 (winL lo hi) 222
    rw [hp] at k1
    have hb : Below w2.heap.size w2 (w2.alloc (.cells (winL lo hi).toArray 222)) := (Below.refl _ w2).alloc (Nat.le_refl _) _
    rw [HWL.out] at k1 hb
    rw [← hw3]
    refine ⟨(HT.out.below HB2.out).below hb, HB2.out.trans (hb.mono HB2.out.size), ?_⟩
    rw [HWL.out]
    exact k1)
  (try simp only [hw3])
  clear hw3 hp HB2
  have HRp := hid (repeat_walk HR3.out.t4)
  go_wp2_with fail
  refine HRp.out.mono ?_
  rintro e w4 ⟨rfl, hw4⟩
  have hw4' := hw4.symm
  clear hw4
  subst hw4'
  clear HRp
  have c0 : w3.cell? ⟨p, 0, none⟩ = some (.int .i64 (fw : Int)) := by have := HR3.out.pk.cell 0; rw [HWL.out] at this; exact this
  go_upto_region 7 with fail
  clear c0
  go_loopw [12, 13] (fun v u wr => ∃ c q : Nat, v = .int .i64 (c : Int) ∧ u = .int .i64 (q : Int) ∧ c ≤ 2048 ∧ fw ≤ q ∧ q ≤ lw + 1 ∧ Hid (c = cnt P (16 * q) ∧ RW w t b f p lo hi wr)) (fun _ u _ => 200 - (intOf u).toNat)
  case atStart => exact ⟨0, fw, rfl, rfl, by omega, Nat.le_refl _, by omega, hid ⟨HC0.out.symm, HR3.out⟩⟩
  case round =>
  clear HR3 HC0
  obtain ⟨c, q, rfl, rfl, hc, hq1, hq2, HK⟩ := hrel
  have c1 : wr.cell? ⟨p, 1, none⟩ = some (.int .i64 (lw : Int)) := by have := HK.out.2.pk.cell 1; rw [HWL.out] at this; exact this
  by_cases hql : q ≤ lw
  rotate_left
  · as_aux_lemma =>
    have dq : decide ((q : Int) ≤ (lw : Int)) = false := decide_eq_false (by omega)
    have HF : Hid (c = cnt P 2048 ∧ c ≤ hi - lo ∧ Below w.heap.size w wr) := hid (by
      obtain rfl : q = lw + 1 := by omega
      have e := HK.out.1
      rw [HCe.out.1] at e
      exact ⟨e, by rw [e]; exact HCe.out.2, HK.out.2.bel⟩)
    clear HK
    go_wp2
    refine bodyPost_ret (results_tmp2 Tryz.results262 _ _ _) rfl ?_
    exact ⟨⟨c, rfl, hid (HX.out c ⟨HF.out.1, HF.out.2.1⟩)⟩, HF.out.2.2⟩
  as_aux_lemma =>
  have dq : decide ((q : Int) ≤ (lw : Int)) = true := decide_eq_true (by omega)
  have hq128 : (q : Int) < 128 := by omega
  obtain ⟨x, hx, hxn, _, _⟩ := HK.out.2.t4.word (q := q) (by omega)
  have HWx := hid (HWd.out q x hq1 hql hxn)
  have HMq := hid (HMa.out q (by omega))
  have hM := mW_lt lo hi q
  obtain ⟨M, hMq⟩ : ∃ M, mW lo hi q = M := ⟨_, rfl⟩
  rw [hMq] at HMq HWx hM
  have HZ : Hid (bits .and .u64 (bits .xor .u64 (x : Int) 18446744073709551615) (M : Int) = (((x ^^^ full4) &&& M : Nat) : Int)) := hid (by
    have e1 : full4 < 18446744073709551616 := by decide
    have e2 : x ^^^ full4 < 18446744073709551616 := Nat.xor_lt_two_pow (n := 64) hx e1
    rw [show bits .xor .u64 (x : Int) 18446744073709551615 = ((x ^^^ full4 : Nat) : Int) by
      rw [u64_xor _ _ (Int.natCast_nonneg _) (by omega) (by decide) (by decide)]
      rfl]
    rw [u64_and _ _ (Int.natCast_nonneg _) (by omega) (Int.natCast_nonneg _) (by omega)]
    simp)
  have hz : (x ^^^ full4) &&& M < 18446744073709551616 := and_lt_r _ hM
  generalize (x ^^^ full4) &&& M = z at HZ HWx hz
  have HNz : Hid (∀ wz, T4 t b f wz → Calls Tryz.prog 253 #[.pointer (some ⟨t, 0, none⟩), .int .u64 (bits .and .u64 (bits .xor .u64 (x : Int) 18446744073709551615) (M : Int))] wz fun e w' => e = .returned (.int .u64 ((nz z : Nat) : Int)) ∧ w' = wz) := hid (fun wz h4 => by rw [HZ.out]; exact nonzero_walk h4 z hz)
  have HOc := hid (fun wz => onesCount_walk (nz z) (nz_lt z) HWx.out.2.1 wz)
  have hsum := HWx.out.2.2
  have HWy := hid HWx.out.1
  generalize sumN (nz z) = sm at HOc HWy hsum
  generalize nz z = y at HNz HOc
  have HR := hid HK.out.2
  have Hc := hid HK.out.1
  have HCx : Hid (∀ wz, RW w t b f p lo hi wz → wz.cell? ⟨b, q, none⟩ = some (.int .u64 (x : Int))) := hid (fun wz hz => by
    obtain ⟨x', hx', hxn', hc', _⟩ := hz.t4.word (q := q) (by omega)
    have : x' = x := nib_ext hx' hx (fun j hj => by rw [hxn' j hj, hxn j hj])
    rw [← this]
    exact hc')
  clear HK HWx HWd HMa hxn HZ hMq
  go_upto_region 9 with fail
  clear c1
  refine wp_region_heavy (fun wz => RW w t b f p lo hi wz) 18 [0, 1, 2, 3, 4, 5, 6, 7, 8, 9, 10, 11, 12] [13, 14, 15, 16, 17] rfl (by kernel_rfl) (by kernel_rfl) (fun d _ _ _ _ h => by cases d <;> exact h) (HR.out.below (Drew.below ⟨1, rfl⟩ _)) ?_
  apply Exists.intro
  refine ⟨?_, ?_⟩
  · intro W hW
    have t0 : ∀ u, (W u).cell? ⟨t, 0, none⟩ = some (.slice (some ⟨b, 0, none⟩) 128 128) := fun u => (hW u).t4.tab.1
    have x0 : ∀ u, (W u).cell? ⟨b, q, none⟩ = some (.int .u64 (x : Int)) := fun u => HCx.out _ (hW u)
    have p0 : ∀ u, (W u).cell? ⟨p, 0, none⟩ = some (.int .i64 (fw : Int)) := fun u => by have := (hW u).pk.cell 0; rw [HWL.out] at this; exact this
    have p1 : ∀ u, (W u).cell? ⟨p, 1, none⟩ = some (.int .i64 (lw : Int)) := fun u => by have := (hW u).pk.cell 1; rw [HWL.out] at this; exact this
    have p2 : ∀ u, (W u).cell? ⟨p, 2, none⟩ = some (.int .u64 (M1 : Int)) := fun u => by have := (hW u).pk.cell 2; rw [HWL.out] at this; exact this
    have p3 : ∀ u, (W u).cell? ⟨p, 3, none⟩ = some (.int .u64 (M2 : Int)) := fun u => by have := (hW u).pk.cell 3; rw [HWL.out] at this; exact this
    clear hW
    simp only [List.take, opsAt, List.drop, List.cons_append, List.nil_append]
    repeat (go_big_quiet_step (fail))
    exact rfl
  simp only [List.take, List.drop, opsAt, List.cons_append, List.nil_append, wpHv]
  have HRd : Hid (RW w t b f p lo hi wr.drew) := hid (HR.out.below (Drew.below ⟨1, rfl⟩ _))
  generalize wr.drew = wd at HRd ⊢
  go_wp2_with fail
  refine (HMq.out wd).mono ?_
  rintro e w5 ⟨rfl, hb5⟩
  have HR5 := hid (HRd.out.below hb5)
  clear hb5 HMq HRd
  go_wp2_with fail
  refine ⟨HR5.out, ?_⟩
  go_wp2_with fail
  refine ⟨HR5.out, ?_⟩
  go_wp2_with fail
  refine (HNz.out w5 HR5.out.t4).mono ?_
  rintro e w6 ⟨rfl, hw6⟩
  have hw6' := hw6.symm
  clear hw6
  subst hw6'
  go_wp2_with fail
  refine ⟨HR5.out, ?_⟩
  go_wp2_with fail
  refine (HOc.out w5).mono ?_
  rintro e w6 ⟨rfl, hw6⟩
  have hw6' := hw6.symm
  clear hw6
  subst hw6'
  have hcb : c + sm ≤ 2064 := by omega
  have HF : Hid (c + sm = cnt P (16 * (q + 1)) ∧ RW w t b f p lo hi w5 ∧ c + sm ≤ 2048) := hid (by
    have e : c + sm = cnt P (16 * (q + 1)) := by rw [HWy.out, Hc.out]
    refine ⟨e, HR5.out, ?_⟩
    have e2 : cnt P (16 * (q + 1)) ≤ 16 * (q + 1) := by
      have := cnt_le (P := P) (Q := fun i => decide (0 ≤ i) && decide (i < 16 * (q + 1))) (h := 16 * (q + 1)) (fun i hi _ => by simp [hi])
      rw [cnt_range] at this
      omega
    omega)
  clear HNz HOc HWy Hc HR
  go_wp2_with fail
  refine ⟨HR5.out, ?_⟩
  go_wp2_with fail
  refine ⟨HR5.out, ?_⟩
  simp only [QN]
  clear HR5
  go_wp2
  exact ⟨⟨c + sm, q + 1, by go_num, by go_num, HF.out.2.2, by omega, by omega, hid ⟨HF.out.1, HF.out.2.1⟩⟩, by simp [intOf]; omega⟩
set_option maxRecDepth 100000 in
set_option maxHeartbeats 2000000 in
theorem countNz_walk (h : T4 t b f w) (lo hi : Nat) (h1 : lo < hi) (h2 : hi ≤ 2048) : Calls Tryz.prog 214 #[.pointer (some ⟨t, 0, none⟩), .int .i64 (lo : Int), .int .i64 (hi : Int)] w fun e w' => (∃ c : Nat, e = .returned (.tuple #[.int .i64 (c : Int), .bool true]) ∧ Hid (c = cnt (fun i => inR lo hi i && !(f i == 0)) 2048 ∧ c ≤ hi - lo)) ∧ Below w.heap.size w w' := by
  have HT := hid h
  have HH := hid (hasRange_walk h lo hi (by omega) h2)
  have HW := hid (fun (wz : World) (hz : Below w.heap.size w wz) => window_walk (h.below hz) lo hi h1 h2)
  have HMa := hid (fun (q : Nat) (hq : q < 128) (wz : World) => maskAt_walk lo hi q wz hq (by omega) h2)
  obtain ⟨P, hP⟩ : ∃ P : Nat → Bool, P = fun i => inR lo hi i && !(f i == 0) := ⟨_, rfl⟩
  have HC0 := hid (cnt_begin hP)
  have HCe := hid (cnt_end hP h2)
  have HP := hid hP
  have HX : Hid (∀ c : Nat, c = cnt P 2048 ∧ c ≤ hi - lo → c = cnt (fun i => inR lo hi i && !(f i == 0)) 2048 ∧ c ≤ hi - lo) := hid (fun c hc => by rw [← hP]; exact hc)
  have h16 : lo / 16 < 128 := by omega
  have h17 : (hi - 1) / 16 < 128 := by omega
  have h18 : lo / 16 ≤ (hi - 1) / 16 := by omega
  have HWd : Hid (∀ q x, lo / 16 ≤ q → q ≤ (hi - 1) / 16 → (∀ j, j < 16 → nib x j = f (16 * q + j)) → cnt P (16 * (q + 1)) = cnt P (16 * q) + sumN (nz (x &&& mW lo hi q)) ∧ (∀ j, j < 16 → nib (nz (x &&& mW lo hi q)) j ≤ 1) ∧ sumN (nz (x &&& mW lo hi q)) ≤ 16) := hid (fun q x g1 g2 g3 => by
    refine cnt_word fun j hj => ?_
    rw [hP]
    exact word_nz h1 g1 g2 g3 j hj)
  have dle : decide ((lo : Int) ≤ (hi : Int)) = true := decide_eq_true (by omega)
  clear h hP
  have hhi : hi ≤ 2048 := h2
  have hlo : lo < hi := h1
  obtain ⟨fw, hfw⟩ : ∃ x, lo / 16 = x := ⟨_, rfl⟩
  obtain ⟨lw, hlw⟩ : ∃ x, (hi - 1) / 16 = x := ⟨_, rfl⟩
  have HWL : Hid (winL lo hi = [.int .i64 (fw : Int), .int .i64 (lw : Int), .int .u64 ((msk (lo % 16) 16 : Nat) : Int), .int .u64 ((msk 0 ((hi - 1) % 16 + 1) : Nat) : Int)]) := hid (by unfold winL; rw [hfw, hlw])
  unfold winV at HW
  rw [hfw, hlw] at HW HMa h18
  rw [hfw] at HC0 h16
  rw [hlw] at HCe h17
  rw [hfw, hlw] at HWd
  obtain ⟨M1, hM1⟩ : ∃ x, msk (lo % 16) 16 = x := ⟨_, rfl⟩
  obtain ⟨M2, hM2⟩ : ∃ x, msk 0 ((hi - 1) % 16 + 1) = x := ⟨_, rfl⟩
  rw [hM1, hM2] at HW HMa HWL
  clear hfw hlw hM1 hM2 h1 h2
  have c4 : w.cell? ⟨t, 4, none⟩ = some (.int .u64 15) := HT.out.tab.2.1
  go_enter Tryz.func214, Tryz.ntmps214
  go_wp2_with fail
  refine HH.out.mono ?_
  rintro e w1 ⟨rfl, hw1⟩
  have hw1' := hw1.symm
  clear hw1
  subst hw1'
  go_wp2_with fail
  refine (HW.out w (Below.refl _ _)).mono ?_
  rintro e w2 ⟨rfl, hb2⟩
  have HB2 := hid hb2
  clear hb2 HW HH c4
  obtain ⟨p, hp⟩ : ∃ p, w2.heap.size = p := ⟨_, rfl⟩
  go_upto_region 4 with fail
  obtain ⟨w3, hw3⟩ : ∃ w3, w2.alloc (.cells #[.int .i64 (fw : Int), .int .i64 (lw : Int), .int .u64 (M1 : Int), .int .u64 (M2 : Int)] 222) = w3 := ⟨_, rfl⟩
  have HR3 : Hid (RW w t b f p lo hi w3) := hid (by
    have k1 := Blk.new w2 (winL lo hi) 222
    rw [hp] at k1
    have hb : Below w2.heap.size w2 (w2.alloc (.cells (winL lo hi).toArray 222)) := (Below.refl _ w2).alloc (Nat.le_refl _) _
    rw [HWL.out] at k1 hb
    rw [← hw3]
    refine ⟨(HT.out.below HB2.out).below hb, HB2.out.trans (hb.mono HB2.out.size), ?_⟩
    rw [HWL.out]
    exact k1)
  (try simp only [hw3])
  clear hw3 hp HB2
  have c0 : w3.cell? ⟨p, 0, none⟩ = some (.int .i64 (fw : Int)) := by have := HR3.out.pk.cell 0; rw [HWL.out] at this; exact this
  go_upto_region 6 with fail
  clear c0
  go_loopw [9, 10] (fun v u wr => ∃ c q : Nat, v = .int .i64 (c : Int) ∧ u = .int .i64 (q : Int) ∧ c ≤ 2048 ∧ fw ≤ q ∧ q ≤ lw + 1 ∧ Hid (c = cnt P (16 * q) ∧ RW w t b f p lo hi wr)) (fun _ u _ => 200 - (intOf u).toNat)
  case atStart => exact ⟨0, fw, rfl, rfl, by omega, Nat.le_refl _, by omega, hid ⟨HC0.out.symm, HR3.out⟩⟩
  case round =>
  clear HR3 HC0
  obtain ⟨c, q, rfl, rfl, hc, hq1, hq2, HK⟩ := hrel
  have c1 : wr.cell? ⟨p, 1, none⟩ = some (.int .i64 (lw : Int)) := by have := HK.out.2.pk.cell 1; rw [HWL.out] at this; exact this
  by_cases hql : q ≤ lw
  rotate_left
  · as_aux_lemma =>
    have dq : decide ((q : Int) ≤ (lw : Int)) = false := decide_eq_false (by omega)
    have HF : Hid (c = cnt P 2048 ∧ c ≤ hi - lo ∧ Below w.heap.size w wr) := hid (by
      obtain rfl : q = lw + 1 := by omega
      have e := HK.out.1
      rw [HCe.out.1] at e
      exact ⟨e, by rw [e]; exact HCe.out.2, HK.out.2.bel⟩)
    clear HK
    go_wp2
    refine bodyPost_ret (results_tmp2 Tryz.results214 _ _ _) rfl ?_
    exact ⟨⟨c, rfl, hid (HX.out c ⟨HF.out.1, HF.out.2.1⟩)⟩, HF.out.2.2⟩
  as_aux_lemma =>
  have dq : decide ((q : Int) ≤ (lw : Int)) = true := decide_eq_true (by omega)
  have hq128 : (q : Int) < 128 := by omega
  obtain ⟨x, hx, hxn, _, _⟩ := HK.out.2.t4.word (q := q) (by omega)
  have HWx := hid (HWd.out q x hq1 hql hxn)
  have HMq := hid (HMa.out q (by omega))
  have hM := mW_lt lo hi q
  obtain ⟨M, hMq⟩ : ∃ M, mW lo hi q = M := ⟨_, rfl⟩
  rw [hMq] at HMq HWx hM
  have HZ : Hid (bits .and .u64 (x : Int) (M : Int) = ((x &&& M : Nat) : Int)) := hid (by
    have e1 : full4 < 18446744073709551616 := by decide
    have e2 : x ^^^ full4 < 18446744073709551616 := Nat.xor_lt_two_pow (n := 64) hx e1
    rw [u64_and _ _ (Int.natCast_nonneg _) (by omega) (Int.natCast_nonneg _) (by omega)]
    simp)
  have hz : x &&& M < 18446744073709551616 := and_lt_r _ hM
  generalize x &&& M = z at HZ HWx hz
  have HNz : Hid (∀ wz, T4 t b f wz → Calls Tryz.prog 253 #[.pointer (some ⟨t, 0, none⟩), .int .u64 (bits .and .u64 (x : Int) (M : Int))] wz fun e w' => e = .returned (.int .u64 ((nz z : Nat) : Int)) ∧ w' = wz) := hid (fun wz h4 => by rw [HZ.out]; exact nonzero_walk h4 z hz)
  have HOc := hid (fun wz => onesCount_walk (nz z) (nz_lt z) HWx.out.2.1 wz)
  have hsum := HWx.out.2.2
  have HWy := hid HWx.out.1
  generalize sumN (nz z) = sm at HOc HWy hsum
  generalize nz z = y at HNz HOc
  have HR := hid HK.out.2
  have Hc := hid HK.out.1
  have HCx : Hid (∀ wz, RW w t b f p lo hi wz → wz.cell? ⟨b, q, none⟩ = some (.int .u64 (x : Int))) := hid (fun wz hz => by
    obtain ⟨x', hx', hxn', hc', _⟩ := hz.t4.word (q := q) (by omega)
    have : x' = x := nib_ext hx' hx (fun j hj => by rw [hxn' j hj, hxn j hj])
    rw [← this]
    exact hc')
  clear HK HWx HWd HMa hxn HZ hMq
  go_upto_region 8 with fail
  clear c1
  refine wp_region_heavy (fun wz => RW w t b f p lo hi wz) 16 [0, 1, 2, 3, 4, 5, 6, 7, 8, 9, 10] [11, 12, 13, 14, 15] rfl (by kernel_rfl) (by kernel_rfl) (fun d _ _ _ _ h => by cases d <;> exact h) (HR.out.below (Drew.below ⟨1, rfl⟩ _)) ?_
  apply Exists.intro
  refine ⟨?_, ?_⟩
  · intro W hW
    have t0 : ∀ u, (W u).cell? ⟨t, 0, none⟩ = some (.slice (some ⟨b, 0, none⟩) 128 128) := fun u => (hW u).t4.tab.1
    have x0 : ∀ u, (W u).cell? ⟨b, q, none⟩ = some (.int .u64 (x : Int)) := fun u => HCx.out _ (hW u)
    have p0 : ∀ u, (W u).cell? ⟨p, 0, none⟩ = some (.int .i64 (fw : Int)) := fun u => by have := (hW u).pk.cell 0; rw [HWL.out] at this; exact this
    have p1 : ∀ u, (W u).cell? ⟨p, 1, none⟩ = some (.int .i64 (lw : Int)) := fun u => by have := (hW u).pk.cell 1; rw [HWL.out] at this; exact this
    have p2 : ∀ u, (W u).cell? ⟨p, 2, none⟩ = some (.int .u64 (M1 : Int)) := fun u => by have := (hW u).pk.cell 2; rw [HWL.out] at this; exact this
    have p3 : ∀ u, (W u).cell? ⟨p, 3, none⟩ = some (.int .u64 (M2 : Int)) := fun u => by have := (hW u).pk.cell 3; rw [HWL.out] at this; exact this
    clear hW
    simp only [List.take, opsAt, List.drop, List.cons_append, List.nil_append]
    repeat (go_big_quiet_step (fail))
    exact rfl
  simp only [List.take, List.drop, opsAt, List.cons_append, List.nil_append, wpHv]
  have HRd : Hid (RW w t b f p lo hi wr.drew) := hid (HR.out.below (Drew.below ⟨1, rfl⟩ _))
  generalize wr.drew = wd at HRd ⊢
  go_wp2_with fail
  refine (HMq.out wd).mono ?_
  rintro e w5 ⟨rfl, hb5⟩
  have HR5 := hid (HRd.out.below hb5)
  clear hb5 HMq HRd
  go_wp2_with fail
  refine ⟨HR5.out, ?_⟩
  go_wp2_with fail
  refine ⟨HR5.out, ?_⟩
  go_wp2_with fail
  refine (HNz.out w5 HR5.out.t4).mono ?_
  rintro e w6 ⟨rfl, hw6⟩
  have hw6' := hw6.symm
  clear hw6
  subst hw6'
  go_wp2_with fail
  refine ⟨HR5.out, ?_⟩
  go_wp2_with fail
  refine (HOc.out w5).mono ?_
  rintro e w6 ⟨rfl, hw6⟩
  have hw6' := hw6.symm
  clear hw6
  subst hw6'
  have hcb : c + sm ≤ 2064 := by omega
  have HF : Hid (c + sm = cnt P (16 * (q + 1)) ∧ RW w t b f p lo hi w5 ∧ c + sm ≤ 2048) := hid (by
    have e : c + sm = cnt P (16 * (q + 1)) := by rw [HWy.out, Hc.out]
    refine ⟨e, HR5.out, ?_⟩
    have e2 : cnt P (16 * (q + 1)) ≤ 16 * (q + 1) := by
      have := cnt_le (P := P) (Q := fun i => decide (0 ≤ i) && decide (i < 16 * (q + 1))) (h := 16 * (q + 1)) (fun i hi _ => by simp [hi])
      rw [cnt_range] at this
      omega
    omega)
  clear HNz HOc HWy Hc HR
  go_wp2_with fail
  refine ⟨HR5.out, ?_⟩
  go_wp2_with fail
  refine ⟨HR5.out, ?_⟩
  simp only [QN]
  clear HR5
  go_wp2
  exact ⟨⟨c + sm, q + 1, by go_num, by go_num, HF.out.2.2, by omega, by omega, hid ⟨HF.out.1, HF.out.2.1⟩⟩, by simp [intOf]; omega⟩
end
end Go.Proofs.Qxb6500887aGreat
