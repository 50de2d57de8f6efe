/- CountNonzero, CountEqual, exactly (written by tools/mk_ax2.py). -/
import Derived.Test.Qxb6500887aGreatAx1
namespace Go.Proofs.Qxb6500887aGreat
open Go.RowKit
set_option linter.unusedSimpArgs false
set_option linter.unusedVariables false
theorem cnt_add (P : Nat → Bool) (m : Nat) : ∀ n, cnt P (m + n) = cnt P m + cnt (fun i => P (m + i)) n
  | 0 => rfl
  | n + 1 => by
    show cnt P (m + n) + (P (m + n)).toNat = cnt P m + (cnt (fun i => P (m + i)) n + (P (m + n)).toNat)
    rw [cnt_add P m n]
    omega
theorem cnt_not (P : Nat → Bool) : ∀ n, cnt (fun i => !P i) n + cnt P n = n
  | 0 => rfl
  | n + 1 => by
    have := cnt_not P n
    show cnt (fun i => !P i) n + (!P n).toNat + (cnt P n + (P n).toNat) = n + 1
    cases P n <;> simp <;> omega
theorem cnt_inR (P : Nat → Bool) {lo hi N : Nat} (h1 : lo ≤ hi) (h2 : hi ≤ N) : cnt (fun i => inR lo hi i && P i) N = cnt (fun i => P (lo + i)) (hi - lo) := by
  obtain ⟨m, rfl⟩ : ∃ m, hi = lo + m := ⟨hi - lo, by omega⟩
  obtain ⟨r, rfl⟩ : ∃ r, N = lo + m + r := ⟨N - (lo + m), by omega⟩
  rw [cnt_add, cnt_add, show lo + m - lo = m by omega]
  rw [cnt_zero (P := fun i => inR lo (lo + m) i && P i) (h := lo) (fun i hi => by
    have : inR lo (lo + m) i = false := by unfold inR; simp; omega
    simp [this])]
  rw [cnt_zero (P := fun i => inR lo (lo + m) (lo + m + i) && P (lo + m + i)) (h := r) (fun i hi => by
    have : inR lo (lo + m) (lo + m + i) = false := by unfold inR; simp
    simp [this])]
  rw [Nat.zero_add, Nat.add_zero]
  exact cnt_eq (fun i hi => by
    have : inR lo (lo + m) (lo + i) = true := by unfold inR; simp; try omega
    simp [this])
section
variable {wd per len lo hi fw lw fm lm q y x : Nat} {X : Nat → Nat} {G P : Nat → Bool}
theorem Flg.cnt (h : Flg wd per q G y) (hw : Wd wd per) : cnt y.testBit 64 = Go.Proofs.Qxb6500887aGreat.cnt (fun j => G (per * q + j)) per := by
  have hm := hw.mul
  have key : ∀ m, m ≤ per → Go.Proofs.Qxb6500887aGreat.cnt y.testBit (m * wd) = Go.Proofs.Qxb6500887aGreat.cnt (fun j => G (per * q + j)) m := by
    intro m
    induction m with
    | zero => intro _; rw [Nat.zero_mul]; rfl
    | succ m ih =>
      intro hl
      rw [Nat.succ_mul, cnt_add, ih (by omega)]
      show _ = Go.Proofs.Qxb6500887aGreat.cnt (fun j => G (per * q + j)) m + (G (per * q + m)).toNat
      congr 1
      have hb : ∀ i, i < wd → y.testBit (m * wd + i) = (decide (i = 0) && G (per * q + m)) := fun i hi => by
        have e1 : m * wd + i < 64 ∧ (m * wd + i) / wd = m ∧ (m * wd + i) % wd = i := by rcases hw with ⟨rfl, rfl⟩ | ⟨rfl, rfl⟩ | ⟨rfl, rfl⟩ <;> omega
        rw [h _ e1.1, e1.2.1, e1.2.2]
      rw [cnt_eq (Q := fun i => decide (i = 0) && G (per * q + m)) hb]
      rcases hw with ⟨rfl, rfl⟩ | ⟨rfl, rfl⟩ | ⟨rfl, rfl⟩ <;> simp [Go.Proofs.Qxb6500887aGreat.cnt]
  rw [← key per (Nat.le_refl _), show per * wd = 64 from hm.1]
theorem flg_gen (hw : Wd wd per) (hlt : lo < hi) (h1 : lo / per ≤ q) (h2 : q ≤ (hi - 1) / per) (hG : ∀ j, j < per → (enW wd x j == 0) = !(G (per * q + j))) : Flg wd per q (fun i => inR lo hi i && G i) (nzW wd (x &&& mskW wd per lo hi q)) := fun i hi64 => by
  rw [testBit_nzW hw hi64]
  congr 1
  have hj : i / wd < per := by rcases hw with ⟨rfl, rfl⟩ | ⟨rfl, rfl⟩ | ⟨rfl, rfl⟩ <;> omega
  rw [enW_mask hw hlt h1 h2 hj]
  have := hG _ hj
  show _ = (inR lo hi (per * q + i / wd) && G (per * q + i / wd))
  cases inR lo hi (per * q + i / wd)
  · simp
  · rw [if_pos rfl, this]; simp
theorem Win.cstart (h : Win wd per len lo hi fw lw fm lm) (P : Nat → Bool) (hp : 1 ≤ per) : Go.Proofs.Qxb6500887aGreat.cnt (fun i => inR lo hi i && P i) (per * fw) = 0 := by
  refine cnt_zero (fun i hi' => ?_)
  rcases h.cs with ⟨rfl, _⟩ | ⟨h1, rfl, _⟩
  · have : inR lo lo i = false := by unfold inR; simp
    simp [this]
  · have h2 : per * (lo / per) ≤ lo := Nat.mul_div_le lo per
    have : inR lo hi i = false := by unfold inR; simp; omega
    simp only [this, Bool.false_and]
theorem Win.cstep (h : Win wd per len lo hi fw lw fm lm) (hw : Wd wd per) (h1 : fw ≤ q) (h2 : q ≤ lw) (hG : ∀ j, j < per → (enW wd x j == 0) = !(G (per * q + j))) : Go.Proofs.Qxb6500887aGreat.cnt (fun i => inR lo hi i && G i) (per * (q + 1)) = Go.Proofs.Qxb6500887aGreat.cnt (fun i => inR lo hi i && G i) (per * q) + Go.Proofs.Qxb6500887aGreat.cnt (nzW wd (x &&& mAt fw lw fm lm q)).testBit 64 := by
  rcases h.cs with ⟨_, rfl, rfl⟩ | ⟨hlt, rfl, rfl, hm⟩
  · omega
  · rw [hm q, (flg_gen hw hlt h1 h2 hG).cnt hw, Nat.mul_succ, cnt_add]
theorem Win.cfin (h : Win wd per len lo hi fw lw fm lm) (P : Nat → Bool) (hp : 1 ≤ per) (hlh : lo ≤ hi) : Go.Proofs.Qxb6500887aGreat.cnt (fun i => inR lo hi i && P i) (per * (lw + 1)) = Go.Proofs.Qxb6500887aGreat.cnt (fun i => P (lo + i)) (hi - lo) := by
  rcases h.cs with ⟨rfl, _⟩ | ⟨h1, _, rfl, _⟩
  · rw [Nat.sub_self]
    refine cnt_zero (fun i hi => ?_)
    have : inR lo lo i = false := by unfold inR; simp
    simp [this]
  · refine cnt_inR P hlh ?_
    have := Nat.lt_mul_div_succ (hi - 1) (show 0 < per by omega)
    omega
/-- The entries of a pattern. -/
theorem pat_tab : ((List.range 2).all fun v => (List.range 64).all fun j => enW 1 (v * onW 1) j == v) = true ∧ ((List.range 4).all fun v => (List.range 32).all fun j => enW 2 (v * onW 2) j == v) = true ∧ ((List.range 16).all fun v => (List.range 16).all fun j => enW 4 (v * onW 4) j == v) = true := ⟨by kernel_rfl, by kernel_rfl, by kernel_rfl⟩
theorem enW_pat (hw : Wd wd per) {v j : Nat} (hv : v ≤ 2 ^ wd - 1) (hj : j < per) : enW wd (v * onW wd) j = v := by
  rcases hw with ⟨rfl, rfl⟩ | ⟨rfl, rfl⟩ | ⟨rfl, rfl⟩
  · exact eq_of_beq (List.all_eq_true.1 (List.all_eq_true.1 pat_tab.1 v (List.mem_range.2 (by omega))) j (List.mem_range.2 hj))
  · exact eq_of_beq (List.all_eq_true.1 (List.all_eq_true.1 pat_tab.2.1 v (List.mem_range.2 (by omega))) j (List.mem_range.2 hj))
  · exact eq_of_beq (List.all_eq_true.1 (List.all_eq_true.1 pat_tab.2.2 v (List.mem_range.2 (by omega))) j (List.mem_range.2 hj))
theorem enW_xor (a c j : Nat) : enW wd (a ^^^ c) j = enW wd a j ^^^ enW wd c j := by
  apply Nat.eq_of_testBit_eq
  intro i
  rw [testBit_enW, Nat.testBit_xor, Nat.testBit_xor, testBit_enW, testBit_enW]
  cases decide (i < wd) <;> simp
theorem xor_zero_iff (a c : Nat) : (a ^^^ c == 0) = (a == c) := by
  rw [Bool.eq_iff_iff]
  simp only [beq_iff_eq]
  constructor
  · intro h
    apply Nat.eq_of_testBit_eq
    intro i
    have := congrArg (fun z => z.testBit i) h
    simp only [Nat.testBit_xor, Nat.zero_testBit] at this
    cases ha : a.testBit i <;> cases hc : c.testBit i <;> simp_all
  · rintro rfl
    exact Nat.xor_self a
def eqP (wd per : Nat) (X : Nat → Nat) (v i : Nat) : Bool := eN wd per X i == v
theorem gnz (hw : Wd wd per) : ∀ j, j < per → (enW wd (X q) j == 0) = !(nzP wd per X (per * q + j)) := fun j hj => by
  unfold nzP
  rw [eN_at hw q j hj]
  simp
theorem geq (hw : Wd wd per) {v : Nat} (hv : v ≤ 2 ^ wd - 1) : ∀ j, j < per → (enW wd (X q ^^^ (v * onW wd)) j == 0) = !(!(eqP wd per X v (per * q + j))) := fun j hj => by
  unfold eqP
  rw [eN_at hw q j hj, enW_xor, enW_pat hw hv hj, xor_zero_iff]
  simp
end
section
variable {t b n wd per len : Nat} {X : Nat → Nat} {w w0 w' : World}
set_option maxRecDepth 100000 in
set_option maxHeartbeats 2000000 in
theorem TB.countNz (h : TB t b n wd per len X w) (lo hi : Nat) (h1 : lo ≤ hi) (h2 : hi ≤ n) : Calls Tryz.prog 214 #[.pointer (some ⟨t, 0, none⟩), .int .i64 (lo : Int), .int .i64 (hi : Int)] w fun e w' => ∃ c : Nat, e = .returned (.tuple #[.int .i64 (c : Int), .bool true]) ∧ c ≤ 32768 ∧ Hid (c = cnt (fun i => nzP wd per X (lo + i)) (hi - lo) ∧ Below w.heap.size w w') := by
  have HT := hid h
  have HH := hid (h.hasRange lo hi h1 h2)
  obtain ⟨fw, lw, fm, lm, hW, hWc⟩ := h.window lo hi h1 h2
  have HW := hid hW
  have HWc := hid hWc
  have HMa := hid (fun (q : Nat) (wz : World) => maskAtG fw lw fm lm q hW.bfm hW.blm wz)
  have hwd := h.k.wd
  have hle := hW.le
  have hlw := hW.small
  have hll := hW.lt
  have hsm := h.k.small
  have HL := hid h.lt
  have hmf := hW.bfm
  have Hwd := hid hwd
  have hhi : hi ≤ 32768 := by have := h.k.n; omega
  have hp1 : 1 ≤ per := hwd.mul.2.1
  have HG := hid (fun (q : Nat) => gnz (X := X) (q := q) hwd)
  clear h hW hWc hwd
  go_enter Tryz.func214, Tryz.ntmps214
  go_wp2_with fail
  refine HH.out.mono ?_
  rintro e w1 ⟨rfl, hw1⟩
  have hw1' := hw1.symm
  clear hw1
  subst hw1'
  go_wp2_with fail
  refine (HWc.out w HT.out).mono ?_
  rintro e w2 ⟨rfl, hb2⟩
  have HB2 := hid hb2
  clear hb2 HWc HH
  obtain ⟨p, hp⟩ : ∃ p, w2.heap.size = p := ⟨_, rfl⟩
  go_upto_region 4 with fail
  obtain ⟨w3, hw3⟩ : ∃ w3, w2.alloc (.cells #[.int .i64 (fw : Int), .int .i64 (lw : Int), .int .u64 (fm : Int), .int .u64 (lm : Int)] 222) = w3 := ⟨_, rfl⟩
  have HR3 : Hid (RZ w t b n wd per len X p fw lw fm lm w3) := hid (by
    rw [← hw3]
    exact RZ.new (HT.out.below HB2.out) HB2.out hp)
  (try simp only [hw3])
  clear hw3 hp HB2
  have c0 := HR3.out.ps.1
  go_upto_region 6 with fail
  clear c0
  go_loopw [9, 10] (fun v0 u wr => ∃ c q : Nat, v0 = .int .i64 (c : Int) ∧ u = .int .i64 (q : Int) ∧ Hid (c = cnt (fun i => inR lo hi i && nzP wd per X i) (per * q)) ∧ fw ≤ q ∧ q ≤ lw + 1 ∧ Hid (RZ w t b n wd per len X p fw lw fm lm wr)) (fun _ u _ => 40000 - (intOf u).toNat)
  case atStart => exact ⟨0, fw, rfl, rfl, hid (HW.out.cstart _ hp1).symm, Nat.le_refl _, hle, HR3⟩
  case round =>
  clear HR3
  obtain ⟨c, q, rfl, rfl, hc, hq1, hq2, HK⟩ := hrel
  have hcb : c ≤ 32768 := by
    rw [hc.out]
    exact Nat.le_trans (cnt_le (Q := fun i => decide (lo ≤ i) && decide (i < hi)) (fun i _ hx => by unfold inR at hx; rw [Bool.and_eq_true] at hx; exact hx.1)) (by rw [cnt_range]; omega)
  have c1 := HK.out.ps.2.1
  by_cases hql : q ≤ lw
  rotate_left
  · as_aux_lemma =>
    have dq : decide ((q : Int) ≤ (lw : Int)) = false := decide_eq_false (by omega)
    have HF : Hid (c = cnt (fun i => nzP wd per X (lo + i)) (hi - lo) ∧ Below w.heap.size w wr) := hid ⟨by rw [hc.out, show q = lw + 1 by omega]; exact HW.out.cfin _ hp1 h1, HK.out.bel⟩
    clear HK
    go_wp2
    refine bodyPost_ret (results_tmp2 Tryz.results214 _ _ _) rfl ?_
    exact ⟨c, rfl, hcb, HF⟩
  as_aux_lemma =>
  have dq : decide ((q : Int) ≤ (lw : Int)) = true := decide_eq_true (by omega)
  have hlen := hll (by omega)
  have hq128 : (q : Int) < (len : Int) := by omega
  have hlen6 : len ≤ 32768 := hsm
  have HMq := hid (HMa.out q)
  have hM := mAt_lt (lw := lw) (lm := lm) (fw := fw) (q := q) hmf
  have HS := hid (HW.out.cstep (G := fun i => nzP wd per X i) Hwd.out hq1 hql (HG.out q))
  generalize mAt fw lw fm lm q = M at HMq hM HS
  have hx := HL.out q
  have HR := hid HK.out
  have hqlen : q < len := by omega
  have HCx : Hid (∀ wz, RZ w t b n wd per len X p fw lw fm lm wz → wz.cell? ⟨b, q, none⟩ = some (.int .u64 ((X q : Nat) : Int))) := hid (fun wz hz => hz.tb.word hqlen)
  generalize hXq : X q = x at hx HCx HS
  clear hXq
  have HZ : Hid (bits .and .u64 (x : Int) (M : Int) = ((x &&& M : Nat) : Int)) := hid (u64_and_nat hx hM)
  have hz : x &&& M < 18446744073709551616 := Nat.lt_of_le_of_lt Nat.and_le_left hx
  generalize x &&& M = z at HZ hz HS
  have HNz := hid (fun (wz : World) (h4 : TB t b n wd per len X wz) => h4.nonzero z hz)
  have HOc := hid (fun wz => onesCountC (nzW wd z) (nzW_lt wd z) wz)
  have hsm2 : cnt (nzW wd z).testBit 64 ≤ 64 := cnt_bnd _ _
  generalize hsm3 : cnt (nzW wd z).testBit 64 = sm at HOc HS hsm2
  clear hsm3
  generalize nzW wd z = y at HNz HOc
  clear HK HMa
  go_upto_region 8 with fail
  clear c1
  refine wp_region_heavy (fun wz => RZ w t b n wd per len X p fw lw fm lm wz) 16 [0, 1, 2, 3, 4, 5, 6, 7, 8, 9, 10] [11, 12, 13, 14, 15] rfl (by kernel_rfl) (by kernel_rfl) (fun d _ _ _ _ h => by cases d <;> exact h) (HR.out.drew ⟨1, rfl⟩) ?_
  apply Exists.intro
  refine ⟨?_, ?_⟩
  · intro W hW
    have t0 : ∀ u, (W u).cell? ⟨t, 0, none⟩ = some (.slice (some ⟨b, 0, none⟩) len len) := fun u => (hW u).tb.cells.1
    have x0 : ∀ u, (W u).cell? ⟨b, q, none⟩ = some (.int .u64 (x : Int)) := fun u => HCx.out _ (hW u)
    have p0 : ∀ u, (W u).cell? ⟨p, 0, none⟩ = some (.int .i64 (fw : Int)) := fun u => (hW u).ps.1
    have p1 : ∀ u, (W u).cell? ⟨p, 1, none⟩ = some (.int .i64 (lw : Int)) := fun u => (hW u).ps.2.1
    have p2 : ∀ u, (W u).cell? ⟨p, 2, none⟩ = some (.int .u64 (fm : Int)) := fun u => (hW u).ps.2.2.1
    have p3 : ∀ u, (W u).cell? ⟨p, 3, none⟩ = some (.int .u64 (lm : Int)) := fun u => (hW u).ps.2.2.2
    clear hW
    simp only [List.take, opsAt, List.drop, List.cons_append, List.nil_append]
    repeat (go_big_quiet_step (fail))
    exact rfl
  simp only [List.take, List.drop, opsAt, List.cons_append, List.nil_append, wpHv]
  have HRd : Hid (RZ w t b n wd per len X p fw lw fm lm wr.drew) := hid (HR.out.drew ⟨1, rfl⟩)
  generalize wr.drew = wd' at HRd ⊢
  clear HR HCx
  go_wp2_with fail
  refine (HMq.out wd').mono ?_
  rintro e w5 ⟨rfl, hb5⟩
  have HR5 := hid (HRd.out.below hb5)
  clear hb5 HMq HRd
  have hand := HZ.out
  go_wp2_with fail
  refine ⟨HR5.out, ?_⟩
  go_wp2_with fail
  refine ⟨HR5.out, ?_⟩
  go_wp2_with fail
  refine (HNz.out w5 HR5.out.tb).mono ?_
  rintro e w6 ⟨rfl, hw6⟩
  have hw6' := hw6.symm
  clear hw6
  subst hw6'
  go_wp2_with fail
  refine ⟨HR5.out, ?_⟩
  go_wp2_with fail
  refine (HOc.out w5).mono ?_
  rintro e w6 ⟨rfl, hw6⟩
  have hw6' := hw6.symm
  clear hw6
  subst hw6'
  clear HNz HOc hand HZ
  go_wp2_with fail
  refine ⟨HR5.out, ?_⟩
  go_wp2_with fail
  refine ⟨HR5.out, ?_⟩
  simp only [QN]
  go_wp2
  exact ⟨⟨c + sm, q + 1, by go_num, by go_num, hid (by rw [HS.out, hc.out]), by omega, by omega, HR5⟩, by simp [intOf]; omega⟩
set_option maxRecDepth 100000 in
set_option maxHeartbeats 2000000 in
theorem TB.countEq (h : TB t b n wd per len X w) (lo hi : Nat) (v : Nat) (h1 : lo ≤ hi) (h2 : hi ≤ n) (hv : v ≤ 2 ^ wd - 1) : Calls Tryz.prog 262 #[.pointer (some ⟨t, 0, none⟩), .int .i64 (lo : Int), .int .i64 (hi : Int), .int .u64 (v : Int)] w fun e w' => ∃ c : Nat, e = .returned (.tuple #[.int .i64 ((hi : Int) - (lo : Int) - (c : Int)), .bool true]) ∧ c ≤ 32768 ∧ Hid (c = cnt (fun i => !(eqP wd per X v (lo + i))) (hi - lo) ∧ Below w.heap.size w w') := by
  have HT := hid h
  have HH := hid (h.hasRange lo hi h1 h2)
  obtain ⟨fw, lw, fm, lm, hW, hWc⟩ := h.window lo hi h1 h2
  have HW := hid hW
  have HWc := hid hWc
  have HMa := hid (fun (q : Nat) (wz : World) => maskAtG fw lw fm lm q hW.bfm hW.blm wz)
  have hwd := h.k.wd
  have hle := hW.le
  have hlw := hW.small
  have hll := hW.lt
  have hsm := h.k.small
  have HL := hid h.lt
  have hmf := hW.bfm
  have Hwd := hid hwd
  have hpat := pat_lt hwd hv
  have HRe := hid (fun (wz : World) (hz : TB t b n wd per len X wz) => hz.repeat v hv)
  have c4 := h.cells.2.2.2.2.1
  have dv : decide (2 ^ wd - 1 < v) = false := decide_eq_false (by omega)
  have hhi : hi ≤ 32768 := by have := h.k.n; omega
  have hp1 : 1 ≤ per := hwd.mul.2.1
  have HG := hid (fun (q : Nat) => geq (X := X) (q := q) hwd hv)
  clear h hW hWc hwd
  generalize v * onW wd = pat at HRe hpat HG
  clear hv
  generalize 2 ^ wd - 1 = mask at c4 dv
  go_enter Tryz.func262, Tryz.ntmps262
  go_wp2_with fail
  refine HH.out.mono ?_
  rintro e w1 ⟨rfl, hw1⟩
  have hw1' := hw1.symm
  clear hw1
  subst hw1'
  go_wp2_with fail
  refine (HWc.out w HT.out).mono ?_
  rintro e w2 ⟨rfl, hb2⟩
  have HB2 := hid hb2
  clear hb2 HWc HH
  obtain ⟨p, hp⟩ : ∃ p, w2.heap.size = p := ⟨_, rfl⟩
  go_upto_region 4 with fail
  obtain ⟨w3, hw3⟩ : ∃ w3, w2.alloc (.cells #[.int .i64 (fw : Int), .int .i64 (lw : Int), .int .u64 (fm : Int), .int .u64 (lm : Int)] 222) = w3 := ⟨_, rfl⟩
  have HR3 : Hid (RZ w t b n wd per len X p fw lw fm lm w3) := hid (by
    rw [← hw3]
    exact RZ.new (HT.out.below HB2.out) HB2.out hp)
  (try simp only [hw3])
  clear hw3 hp HB2
  clear c4 dv
  go_wp2_with fail
  refine (HRe.out w3 HR3.out.tb).mono ?_
  rintro e w6 ⟨rfl, hw6⟩
  have hw6' := hw6.symm
  clear hw6
  subst hw6'
  clear HRe
  have c0 := HR3.out.ps.1
  go_upto_region 7 with fail
  clear c0
  go_loopw [12, 13] (fun v0 u wr => ∃ c q : Nat, v0 = .int .i64 (c : Int) ∧ u = .int .i64 (q : Int) ∧ Hid (c = cnt (fun i => inR lo hi i && !(eqP wd per X v i)) (per * q)) ∧ fw ≤ q ∧ q ≤ lw + 1 ∧ Hid (RZ w t b n wd per len X p fw lw fm lm wr)) (fun _ u _ => 40000 - (intOf u).toNat)
  case atStart => exact ⟨0, fw, rfl, rfl, hid (HW.out.cstart _ hp1).symm, Nat.le_refl _, hle, HR3⟩
  case round =>
  clear HR3
  obtain ⟨c, q, rfl, rfl, hc, hq1, hq2, HK⟩ := hrel
  have hcb : c ≤ 32768 := by
    rw [hc.out]
    exact Nat.le_trans (cnt_le (Q := fun i => decide (lo ≤ i) && decide (i < hi)) (fun i _ hx => by unfold inR at hx; rw [Bool.and_eq_true] at hx; exact hx.1)) (by rw [cnt_range]; omega)
  have c1 := HK.out.ps.2.1
  by_cases hql : q ≤ lw
  rotate_left
  · as_aux_lemma =>
    have dq : decide ((q : Int) ≤ (lw : Int)) = false := decide_eq_false (by omega)
    have HF : Hid (c = cnt (fun i => !(eqP wd per X v (lo + i))) (hi - lo) ∧ Below w.heap.size w wr) := hid ⟨by rw [hc.out, show q = lw + 1 by omega]; exact HW.out.cfin _ hp1 h1, HK.out.bel⟩
    clear HK
    go_wp2
    refine bodyPost_ret (results_tmp2 Tryz.results262 _ _ _) rfl ?_
    exact ⟨c, rfl, hcb, HF⟩
  as_aux_lemma =>
  have dq : decide ((q : Int) ≤ (lw : Int)) = true := decide_eq_true (by omega)
  have hlen := hll (by omega)
  have hq128 : (q : Int) < (len : Int) := by omega
  have hlen6 : len ≤ 32768 := hsm
  have HMq := hid (HMa.out q)
  have hM := mAt_lt (lw := lw) (lm := lm) (fw := fw) (q := q) hmf
  have HS := hid (HW.out.cstep (G := fun i => !(eqP wd per X v i)) Hwd.out hq1 hql (HG.out q))
  generalize mAt fw lw fm lm q = M at HMq hM HS
  have hx := HL.out q
  have HR := hid HK.out
  have hqlen : q < len := by omega
  have HCx : Hid (∀ wz, RZ w t b n wd per len X p fw lw fm lm wz → wz.cell? ⟨b, q, none⟩ = some (.int .u64 ((X q : Nat) : Int))) := hid (fun wz hz => hz.tb.word hqlen)
  generalize hXq : X q = x at hx HCx HS
  clear hXq
  have hxp : x ^^^ pat < 18446744073709551616 := Nat.xor_lt_two_pow (n := 64) hx hpat
  have HZ : Hid (bits .and .u64 (bits .xor .u64 (x : Int) (pat : Int)) (M : Int) = (((x ^^^ pat) &&& M : Nat) : Int)) := hid (by
    rw [show bits .xor .u64 (x : Int) (pat : Int) = ((x ^^^ pat : Nat) : Int) by
      rw [u64_xor _ _ (Int.natCast_nonneg _) (by omega) (Int.natCast_nonneg _) (by omega)]; simp]
    exact u64_and_nat hxp hM)
  have hz : (x ^^^ pat) &&& M < 18446744073709551616 := Nat.lt_of_le_of_lt Nat.and_le_left hxp
  generalize (x ^^^ pat) &&& M = z at HZ hz HS
  have HNz := hid (fun (wz : World) (h4 : TB t b n wd per len X wz) => h4.nonzero z hz)
  have HOc := hid (fun wz => onesCountC (nzW wd z) (nzW_lt wd z) wz)
  have hsm2 : cnt (nzW wd z).testBit 64 ≤ 64 := cnt_bnd _ _
  generalize hsm3 : cnt (nzW wd z).testBit 64 = sm at HOc HS hsm2
  clear hsm3
  generalize nzW wd z = y at HNz HOc
  clear HK HMa
  go_upto_region 9 with fail
  clear c1
  refine wp_region_heavy (fun wz => RZ w t b n wd per len X p fw lw fm lm wz) 18 [0, 1, 2, 3, 4, 5, 6, 7, 8, 9, 10, 11, 12] [13, 14, 15, 16, 17] rfl (by kernel_rfl) (by kernel_rfl) (fun d _ _ _ _ h => by cases d <;> exact h) (HR.out.drew ⟨1, rfl⟩) ?_
  apply Exists.intro
  refine ⟨?_, ?_⟩
  · intro W hW
    have t0 : ∀ u, (W u).cell? ⟨t, 0, none⟩ = some (.slice (some ⟨b, 0, none⟩) len len) := fun u => (hW u).tb.cells.1
    have x0 : ∀ u, (W u).cell? ⟨b, q, none⟩ = some (.int .u64 (x : Int)) := fun u => HCx.out _ (hW u)
    have p0 : ∀ u, (W u).cell? ⟨p, 0, none⟩ = some (.int .i64 (fw : Int)) := fun u => (hW u).ps.1
    have p1 : ∀ u, (W u).cell? ⟨p, 1, none⟩ = some (.int .i64 (lw : Int)) := fun u => (hW u).ps.2.1
    have p2 : ∀ u, (W u).cell? ⟨p, 2, none⟩ = some (.int .u64 (fm : Int)) := fun u => (hW u).ps.2.2.1
    have p3 : ∀ u, (W u).cell? ⟨p, 3, none⟩ = some (.int .u64 (lm : Int)) := fun u => (hW u).ps.2.2.2
    clear hW
    simp only [List.take, opsAt, List.drop, List.cons_append, List.nil_append]
    repeat (go_big_quiet_step (fail))
    exact rfl
  simp only [List.take, List.drop, opsAt, List.cons_append, List.nil_append, wpHv]
  have HRd : Hid (RZ w t b n wd per len X p fw lw fm lm wr.drew) := hid (HR.out.drew ⟨1, rfl⟩)
  generalize wr.drew = wd' at HRd ⊢
  clear HR HCx
  go_wp2_with fail
  refine (HMq.out wd').mono ?_
  rintro e w5 ⟨rfl, hb5⟩
  have HR5 := hid (HRd.out.below hb5)
  clear hb5 HMq HRd
  have hand := HZ.out
  go_wp2_with fail
  refine ⟨HR5.out, ?_⟩
  go_wp2_with fail
  refine ⟨HR5.out, ?_⟩
  go_wp2_with fail
  refine (HNz.out w5 HR5.out.tb).mono ?_
  rintro e w6 ⟨rfl, hw6⟩
  have hw6' := hw6.symm
  clear hw6
  subst hw6'
  go_wp2_with fail
  refine ⟨HR5.out, ?_⟩
  go_wp2_with fail
  refine (HOc.out w5).mono ?_
  rintro e w6 ⟨rfl, hw6⟩
  have hw6' := hw6.symm
  clear hw6
  subst hw6'
  clear HNz HOc hand HZ
  go_wp2_with fail
  refine ⟨HR5.out, ?_⟩
  go_wp2_with fail
  refine ⟨HR5.out, ?_⟩
  simp only [QN]
  go_wp2
  exact ⟨⟨c + sm, q + 1, by go_num, by go_num, hid (by rw [HS.out, hc.out]), by omega, by omega, HR5⟩, by simp [intOf]; omega⟩
theorem TB.nNz (h : TB t b n wd per len X w) (lo hi : Nat) (h1 : lo ≤ hi) (h2 : hi ≤ n) : Calls Tryz.prog 214 #[.pointer (some ⟨t, 0, none⟩), .int .i64 (lo : Int), .int .i64 (hi : Int)] w fun e w' => e = .returned (.tuple #[.int .i64 ((cnt (fun i => nzP wd per X (lo + i)) (hi - lo) : Nat) : Int), .bool true]) ∧ Below w.heap.size w w' := (h.countNz lo hi h1 h2).mono (by
  rintro e w1 ⟨c, rfl, _, HB⟩
  exact ⟨by rw [← HB.out.1], HB.out.2⟩)
theorem TB.nEq (h : TB t b n wd per len X w) (lo hi : Nat) (v : Nat) (h1 : lo ≤ hi) (h2 : hi ≤ n) (hv : v ≤ 2 ^ wd - 1) : Calls Tryz.prog 262 #[.pointer (some ⟨t, 0, none⟩), .int .i64 (lo : Int), .int .i64 (hi : Int), .int .u64 (v : Int)] w fun e w' => e = .returned (.tuple #[.int .i64 ((cnt (fun i => eqP wd per X v (lo + i)) (hi - lo) : Nat) : Int), .bool true]) ∧ Below w.heap.size w w' := (h.countEq lo hi v h1 h2 hv).mono (by
  rintro e w1 ⟨c, rfl, _, HB⟩
  have := cnt_not (fun i => eqP wd per X v (lo + i)) (hi - lo)
  have e1 := HB.out.1
  have e2 : (hi : Int) - (lo : Int) - (c : Int) = ((cnt (fun i => eqP wd per X v (lo + i)) (hi - lo) : Nat) : Int) := by omega
  exact ⟨by rw [e2], HB.out.2⟩)
end
end Go.Proofs.Qxb6500887aGreat
