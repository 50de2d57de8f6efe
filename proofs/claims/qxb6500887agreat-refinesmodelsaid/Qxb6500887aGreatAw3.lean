/- The model's audit (written by tools/mk_aw3.py). -/
import Derived.Test.Qxb6500887aGreatAw2
import Derived.Deep.DeepCutAuto
namespace Go.Proofs.Qxb6500887aGreat
open Go.RowKit
set_option linter.unusedSimpArgs false
set_option linter.unusedVariables false
/-- What an audit has counted so far, and the end of the objects so far. -/
structure AuT where
  ct : Nat
  nh : Nat
  ov : Nat
  un : Nat
  bf : Nat
  en : Nat
def szN (W : Nat → Nat) (g : Nat) : Nat := (decSize (W (2 * g))).toNat
def rfN (W : Nat → Nat) (g : Nat) : Nat := (decRefs (W (2 * g))).toNat
open Classical in
noncomputable def rfB (W : Nat → Nat) (g : Nat) : Bool := decide (rfAllW W (2 * g + 1) (rfN W g))
noncomputable def auStep (E : ES) (g : Nat) (s : AuT) : AuT := if E.C g = 0 then s else if opW E.W g = 0 then ⟨s.ct + 1, s.nh, s.ov + (decide (2 * g < s.en)).toNat, s.un + (!(hsE E.T (2 * g) (1 + szN E.W g))).toNat, s.bf + (!(rfB E.W g)).toNat, max s.en (2 * g + 1 + szN E.W g)⟩ else ⟨s.ct + 1, s.nh + 1, s.ov + (decide (2 * g < s.en)).toNat, s.un, s.bf, s.en⟩
noncomputable def auS (E : ES) : Nat → AuT
  | 0 => ⟨0, 0, 0, 0, 0, 0⟩
  | g + 1 => auStep E g (auS E g)
noncomputable def auL (E : ES) : List Nat := [(auS E 16384).ct, (auS E 16384).nh, (auS E 16384).ov, (auS E 16384).un, (auS E 16384).bf]
theorem opW_ok {W : Nat → Nat} {g : Nat} (h : opW W g = 0) (hg : g < 16384) : decSize (W (2 * g)) = ((szN W g : Nat) : Int) ∧ decRefs (W (2 * g)) = ((rfN W g : Nat) : Int) ∧ 1 ≤ szN W g ∧ szN W g ≤ 8192 ∧ rfN W g ≤ szN W g ∧ 2 * g + 1 + szN W g ≤ 32768 := by
  unfold opW at h
  split at h
  · rename_i hh
    have h3 := hh.2.2
    unfold hdrCheck at h3
    have h4 : 1 ≤ decSize (W (2 * g)) ∧ decSize (W (2 * g)) ≤ 8192 ∧ 0 ≤ decRefs (W (2 * g)) ∧ decRefs (W (2 * g)) ≤ decSize (W (2 * g)) := by
      split at h3
      · exact absurd h3 (by decide)
      · split at h3
        · exact absurd h3 (by decide)
        · omega
    unfold lenOut at h
    rw [if_neg (by omega)] at h
    split at h
    · exact absurd h (by decide)
    · unfold szN rfN
      omega
  · exact absurd h (by decide)
theorem auS_le (E : ES) : ∀ g, g ≤ 16384 → (auS E g).ct ≤ g ∧ (auS E g).nh ≤ g ∧ (auS E g).ov ≤ g ∧ (auS E g).un ≤ g ∧ (auS E g).bf ≤ g ∧ (auS E g).en ≤ 32768
  | 0, _ => ⟨Nat.le_refl _, Nat.le_refl _, Nat.le_refl _, Nat.le_refl _, Nat.le_refl _, Nat.zero_le _⟩
  | g + 1, hg => by
    obtain ⟨h1, h2, h3, h4, h5, h6⟩ := auS_le E g (by omega)
    rw [show auS E (g + 1) = auStep E g (auS E g) from rfl]
    generalize auS E g = s at *
    unfold auStep
    have b1 : ∀ b : Bool, b.toNat ≤ 1 := fun b => by cases b <;> decide
    by_cases hc : E.C g = 0
    · rw [if_pos hc]; omega
    · rw [if_neg hc]
      by_cases ho : opW E.W g = 0
      · rw [if_pos ho]
        have := opW_ok ho (by omega)
        have k1 := b1 (decide (2 * g < s.en))
        have k2 := b1 (!(hsE E.T (2 * g) (1 + szN E.W g)))
        have k3 := b1 (!(rfB E.W g))
        simp only []
        omega
      · rw [if_neg ho]
        have k1 := b1 (decide (2 * g < s.en))
        simp only []
        omega
section
variable {l : ML} {E : ES} {w w' w0 : World}
set_option maxRecDepth 100000 in
set_option maxHeartbeats 8000000 in
theorem auditM (h : MM l E w) : Calls Tryz.prog 198 #[.pointer (some ⟨l.m, 0, none⟩)] w fun e w' => e = .returned (.agg ((auL E).map natV).toArray) ∧ Hid (Below w.heap.size w w') := by
  have I0 := hid info_rp
  obtain ⟨r, hr⟩ : ∃ r, w.heap.size = r := ⟨_, rfl⟩
  have H0 : Hid (OwV (MM l E) w [(r, 36, [.int .i64 0, .int .i64 0, .int .i64 0, .int .i64 0, .int .i64 0])] (w.alloc (.cells #[.int .i64 0, .int .i64 0, .int .i64 0, .int .i64 0, .int .i64 0] 36))) := hid ((OwV.start h MM.stays).new hr 36 [.int .i64 0, .int .i64 0, .int .i64 0, .int .i64 0, .int .i64 0])
  clear h
  go_enter Tryz.func198, Tryz.ntmps198
  go_upto_region 1 with fail
  (try simp only [hr])
  generalize hw1 : w.alloc _ = w1 at H0 ⊢
  clear hw1 hr
  obtain ⟨u, hu⟩ : ∃ u, w1.heap.size = u := ⟨_, rfl⟩
  have H1 : Hid (OwV (MM l E) w [(u, 36, [.int .i64 0, .int .i64 0, .int .i64 0, .int .i64 0, .int .i64 0]), (r, 36, [.int .i64 0, .int .i64 0, .int .i64 0, .int .i64 0, .int .i64 0])] (w1.alloc (.cells #[.int .i64 0, .int .i64 0, .int .i64 0, .int .i64 0, .int .i64 0] 36))) := hid (H0.out.new hu 36 [.int .i64 0, .int .i64 0, .int .i64 0, .int .i64 0, .int .i64 0])
  go_upto_region 2 with fail
  (try simp only [hu])
  generalize hw2 : w1.alloc _ = w2 at H1 ⊢
  clear hw2 hu H0
  go_upto_region 4 with fail
  go_loopw [4, 5] (fun e_ v wr => ∃ g x0 x1 x2 x3 x4 en : Nat, e_ = .int .i64 (en : Int) ∧ v = .int .i64 (g : Int) ∧ g ≤ 16384 ∧ Hid (x0 = (auS E g).ct ∧ x1 = (auS E g).nh ∧ x2 = (auS E g).ov ∧ x3 = (auS E g).un ∧ x4 = (auS E g).bf ∧ en = (auS E g).en) ∧ Hid (OwV (MM l E) w [(u, 36, [.int .i64 (x0 : Int), .int .i64 (x1 : Int), .int .i64 (x2 : Int), .int .i64 (x3 : Int), .int .i64 (x4 : Int)]), (r, 36, [.int .i64 0, .int .i64 0, .int .i64 0, .int .i64 0, .int .i64 0])] wr)) (fun _ v _ => 16384 - (intOf v).toNat)
  case atStart => exact ⟨0, 0, 0, 0, 0, 0, 0, rfl, rfl, by omega, hid ⟨rfl, rfl, rfl, rfl, rfl, rfl⟩, H1⟩
  case round =>
  clear H1
  obtain ⟨g, x0, x1, x2, x3, x4, en, rfl, rfl, hg, HS, HK⟩ := hrel
  by_cases hgn : g < 16384
  rotate_left
  · as_aux_lemma =>
    have dg : decide ((g : Int) < 16384) = false := decide_eq_false (by omega)
    have HE : Hid ([.int .i64 (x0 : Int), .int .i64 (x1 : Int), .int .i64 (x2 : Int), .int .i64 (x3 : Int), .int .i64 (x4 : Int)] = (auL E).map natV) := hid (by
      obtain ⟨e0, e1, e2, e3, e4, _⟩ := HS.out
      rw [e0, e1, e2, e3, e4, show g = 16384 by omega]
      rfl)
    clear HS
    have Hx := hid (HK.out.blk (k := 0) rfl)
    have Hy := hid (HK.out.blk (k := 1) rfl)
    go_wp2_with (first | (refine wpList_load_blk rfl 36 _ rfl u rfl [.int .i64 (x0 : Int), .int .i64 (x1 : Int), .int .i64 (x2 : Int), .int .i64 (x3 : Int), .int .i64 (x4 : Int)] Hx.out _ Tryz.underlying36 rfl I0.out ?_) | (refine wpList_store_blk rfl 36 _ _ rfl r rfl [.int .i64 (x0 : Int), .int .i64 (x1 : Int), .int .i64 (x2 : Int), .int .i64 (x3 : Int), .int .i64 (x4 : Int)] rfl Hy.out rfl I0.out (by rw [HE.out]; exact natV_one _) ?_; intro w9 HB9 HU9))
    refine bodyPost_ret (results_blk (cs := [.int .i64 (x0 : Int), .int .i64 (x1 : Int), .int .i64 (x2 : Int), .int .i64 (x3 : Int), .int .i64 (x4 : Int)]) Tryz.results198 rfl agg_rp HB9.out) rfl ?_
    exact ⟨by rw [HE.out], hid (HK.out.out (k := 1) rfl HU9.out)⟩
  as_aux_lemma =>
  have dg : decide ((g : Int) < 16384) = true := decide_eq_true (by omega)
  have hle : x0 ≤ 16384 ∧ x1 ≤ 16384 ∧ x2 ≤ 16384 ∧ x3 ≤ 16384 ∧ x4 ≤ 16384 ∧ en ≤ 32768 := by
    obtain ⟨e0, e1, e2, e3, e4, e5⟩ := HS.out
    have := auS_le E g (by omega)
    omega
  obtain ⟨lx0, lx1, lx2, lx3, lx4, len⟩ := hle
  have HSn : Hid (auS E (g + 1) = auStep E g (auS E g)) := hid rfl
  have HQS : Hid (auS E g = ⟨x0, x1, x2, x3, x4, en⟩) := hid (by
    obtain ⟨e0, e1, e2, e3, e4, e5⟩ := HS.out
    rw [e0, e1, e2, e3, e4, e5])
  rw [HQS.out] at HSn
  clear HS HQS
  unfold auStep at HSn
  simp only [] at HSn
  have c1 := HK.out.b.cells.2.1
  have cc := HK.out.b.count hgn
  obtain ⟨cv, hcv⟩ : ∃ cv, E.C g = cv := ⟨_, rfl⟩
  rw [hcv] at cc HSn
  clear hcv
  by_cases hcz : cv = 0
  · as_aux_lemma =>
    rw [if_pos hcz] at HSn
    have d0 : ((cv : Int) == 0) = true := by simp; omega
    clear hcz
    go_wp2
    exact ⟨⟨g + 1, x0, x1, x2, x3, x4, en, rfl, by go_num, by omega, hid (by rw [HSn.out]; exact ⟨rfl, rfl, rfl, rfl, rfl, rfl⟩), HK⟩, by simp [intOf]; omega⟩
  as_aux_lemma =>
  rw [if_neg hcz] at HSn
  have d0 : ((cv : Int) == 0) = false := by simp; omega
  clear hcz
  obtain ⟨y0, hy0⟩ : ∃ y, x0 + 1 = y := ⟨_, rfl⟩
  have ey0 : (x0 : Int) + 1 = (y0 : Int) := by omega
  have ly0 : y0 ≤ 16385 := by omega
  rw [hy0] at HSn
  clear hy0
  obtain ⟨k, hk⟩ : ∃ k, 2 * g = k := ⟨_, rfl⟩
  have ek : (g : Int) * 2 = (k : Int) := by omega
  have hkb : k < 32768 := by omega
  have HOw : Hid (∀ wz, MM l E wz → Calls Tryz.prog 192 #[.pointer (some ⟨l.m, 0, none⟩), .int .i64 (k : Int)] wz fun e w' => e = .returned (.tuple (owR E.W g (opW E.W g))) ∧ w' = wz) := hid (fun wz hz => by rw [← hk]; exact owM hz hgn)
  obtain ⟨bo, hbo⟩ : ∃ bo : Bool, decide (k < en) = bo := ⟨_, rfl⟩
  have dbo : decide ((k : Int) < (en : Int)) = bo := by rw [← hbo]; simp
  rw [hk, hbo] at HSn
  have Hk := hid hk
  clear hk
  have cx_ : wr.cell? ⟨u, 0, none⟩ = some (.int .i64 (x0 : Int)) := HK.out.cell (k := 0) rfl 0
  have zx_ : wr.frozen? ⟨u, 0, none⟩ = false := HK.out.frozen (k := 0) rfl 0
  have HP0 : Hid (OwV (MM l E) w [(u, 36, [.int .i64 (y0 : Int), .int .i64 (x1 : Int), .int .i64 (x2 : Int), .int .i64 (x3 : Int), .int .i64 (x4 : Int)]), (r, 36, [.int .i64 0, .int .i64 0, .int .i64 0, .int .i64 0, .int .i64 0])] (wr.setCell ⟨u, 0, none⟩ (.int .i64 (y0 : Int)))) := hid (HK.out.put (k := 0) rfl 0 (.int .i64 (y0 : Int)))
  go_upto_region 8 with fail
  generalize hz_ : World.setCell _ _ _ = wa at HP0 ⊢
  clear hz_ cx_ zx_ HK
  clear ey0 c1 cc d0
  go_upto_if 31 with fail
  go_cut [] from 32 to 35 (fun wb => ∃ y2 : Nat, y2 ≤ 16384 + 1 ∧ Hid (y2 = x2 + (bo).toNat) ∧ Hid (OwV (MM l E) w [(u, 36, [.int .i64 (y0 : Int), .int .i64 (x1 : Int), .int .i64 (y2 : Int), .int .i64 (x3 : Int), .int .i64 (x4 : Int)]), (r, 36, [.int .i64 0, .int .i64 0, .int .i64 0, .int .i64 0, .int .i64 0])] wb))
  case first =>
    cases bo with
    | true =>
      have cx_ : wa.cell? ⟨u, 2, none⟩ = some (.int .i64 (x2 : Int)) := HP0.out.cell (k := 0) rfl 2
      have zx_ : wa.frozen? ⟨u, 2, none⟩ = false := HP0.out.frozen (k := 0) rfl 2
      obtain ⟨y2, hy_⟩ : ∃ y, x2 + 1 = y := ⟨_, rfl⟩
      have ey_ : (x2 : Int) + 1 = (y2 : Int) := by omega
      have hyb_ : y2 ≤ 16384 + 1 := by omega
      have HY_ := hid hy_
      have HZ_ : Hid (OwV (MM l E) w [(u, 36, [.int .i64 (y0 : Int), .int .i64 (x1 : Int), .int .i64 (y2 : Int), .int .i64 (x3 : Int), .int .i64 (x4 : Int)]), (r, 36, [.int .i64 0, .int .i64 0, .int .i64 0, .int .i64 0, .int .i64 0])] (wa.setCell ⟨u, 2, none⟩ (.int .i64 (y2 : Int)))) := hid (HP0.out.put (k := 0) rfl 2 (.int .i64 (y2 : Int)))
      clear hy_
      go_wp2
      go_meet
      case rel => exact ⟨y2, hyb_, hid HY_.out.symm, HZ_⟩
    | false =>
      go_wp2
      go_meet
      case rel => exact ⟨x2, by omega, hid rfl, HP0⟩
  case rest =>
  obtain ⟨wb, hwc_⟩ : ∃ x, x = wc := ⟨_, rfl⟩
  subst hwc_
  obtain ⟨y2, hb_y2, HYy2, HP2⟩ := hcut
  clear HP0
  rw [← HYy2.out] at HSn
  clear HYy2 hbo dbo
  by_cases ho : opW E.W g = 0
  rotate_left
  · as_aux_lemma =>
    rw [if_neg ho] at HSn
    unfold owR at HOw
    rw [if_neg ho] at HOw
    generalize opW E.W g = cd at *
    have dc : (cd != 0) = true := by simpa using ho
    have dc' : (cd == 0) = false := by simpa using ho
    (go_wp2_with fail; refine (HOw.out _ HP2.out.b).mono ?_; rintro e_ w_ ⟨he_, hw_⟩; subst he_; have hs_ := hw_.symm; clear hw_; subst hs_)
    obtain ⟨y1, hy1⟩ : ∃ y, x1 + 1 = y := ⟨_, rfl⟩
    have ey1 : (x1 : Int) + 1 = (y1 : Int) := by omega
    rw [hy1] at HSn
    clear hy1
    have cx_ : wb.cell? ⟨u, 1, none⟩ = some (.int .i64 (x1 : Int)) := HP2.out.cell (k := 0) rfl 1
    have zx_ : wb.frozen? ⟨u, 1, none⟩ = false := HP2.out.frozen (k := 0) rfl 1
    have HP3 : Hid (OwV (MM l E) w [(u, 36, [.int .i64 (y0 : Int), .int .i64 (y1 : Int), .int .i64 (y2 : Int), .int .i64 (x3 : Int), .int .i64 (x4 : Int)]), (r, 36, [.int .i64 0, .int .i64 0, .int .i64 0, .int .i64 0, .int .i64 0])] (wb.setCell ⟨u, 1, none⟩ (.int .i64 (y1 : Int)))) := hid (HP2.out.put (k := 0) rfl 1 (.int .i64 (y1 : Int)))
    go_wp2
    exact ⟨⟨g + 1, y0, y1, y2, x3, x4, en, rfl, by go_num, by omega, hid (by rw [HSn.out]; exact ⟨rfl, rfl, rfl, rfl, rfl, rfl⟩), HP3⟩, by simp [intOf]; omega⟩
  as_aux_lemma =>
  rw [if_pos ho] at HSn
  unfold owR at HOw
  rw [if_pos ho] at HOw
  obtain ⟨o1, o2, o3, o4, o5, o6⟩ := opW_ok ho hgn
  have HRf : Hid (rfB E.W g = rfB E.W g) := hid rfl
  have Hrf : Hid (∀ _ : Nat, rfB E.W g = true ↔ rfAllW E.W (k + 1) (rfN E.W g)) := hid (fun _ => by rw [← Hk.out]; unfold rfB; exact @decide_eq_true_iff _ (Classical.propDecidable _))
  rw [o1, o2, Hk.out] at HOw
  rw [Hk.out] at o6
  obtain ⟨bd, hbd⟩ : ∃ bd, rfB E.W g = bd := ⟨_, rfl⟩
  rw [hbd] at HSn Hrf
  generalize szN E.W g = sz at *
  generalize rfN E.W g = rf at *
  clear ho o1 o2 HRf hbd
  (go_wp2_with fail; refine (HOw.out _ HP2.out.b).mono ?_; rintro e_ w_ ⟨he_, hw_⟩; subst he_; have hs_ := hw_.symm; clear hw_; subst hs_)
  clear HOw
  obtain ⟨s1, hs1⟩ : ∃ s1, 1 + sz = s1 := ⟨_, rfl⟩
  have es1 : (1 : Int) + (sz : Int) = (s1 : Int) := by omega
  have HHo : Hid (∀ wz, MM l E wz → Calls Tryz.prog 107 #[.pointer (some ⟨l.m, 0, none⟩), .int .i64 (k : Int), .int .i64 (s1 : Int)] wz fun e w' => e = .returned (.bool (hsE E.T k s1)) ∧ w' = wz) := hid (fun wz hz => hoM hz (by omega))
  rw [hs1] at HSn
  obtain ⟨hs, hhs⟩ : ∃ hs, hsE E.T k s1 = hs := ⟨_, rfl⟩
  rw [hhs] at HHo HSn
  clear hhs
  obtain ⟨bh, hbh⟩ : ∃ bh, (!hs) = bh := ⟨_, rfl⟩
  rw [hbh] at HSn
  (go_wp2_with fail; refine (HHo.out _ HP2.out.b).mono ?_; rintro e_ w_ ⟨he_, hw_⟩; subst he_; have hs_ := hw_.symm; clear hw_; subst hs_)
  clear HHo
  go_upto_if 56 with fail
  go_cut [] from 57 to 60 (fun wc2 => ∃ y3 : Nat, y3 ≤ 16384 + 1 ∧ Hid (y3 = x3 + (bh).toNat) ∧ Hid (OwV (MM l E) w [(u, 36, [.int .i64 (y0 : Int), .int .i64 (x1 : Int), .int .i64 (y2 : Int), .int .i64 (y3 : Int), .int .i64 (x4 : Int)]), (r, 36, [.int .i64 0, .int .i64 0, .int .i64 0, .int .i64 0, .int .i64 0])] wc2))
  case first =>
    cases bh with
    | true =>
      have cx_ : wb.cell? ⟨u, 3, none⟩ = some (.int .i64 (x3 : Int)) := HP2.out.cell (k := 0) rfl 3
      have zx_ : wb.frozen? ⟨u, 3, none⟩ = false := HP2.out.frozen (k := 0) rfl 3
      obtain ⟨y3, hy_⟩ : ∃ y, x3 + 1 = y := ⟨_, rfl⟩
      have ey_ : (x3 : Int) + 1 = (y3 : Int) := by omega
      have hyb_ : y3 ≤ 16384 + 1 := by omega
      have HY_ := hid hy_
      have HZ_ : Hid (OwV (MM l E) w [(u, 36, [.int .i64 (y0 : Int), .int .i64 (x1 : Int), .int .i64 (y2 : Int), .int .i64 (y3 : Int), .int .i64 (x4 : Int)]), (r, 36, [.int .i64 0, .int .i64 0, .int .i64 0, .int .i64 0, .int .i64 0])] (wb.setCell ⟨u, 3, none⟩ (.int .i64 (y3 : Int)))) := hid (HP2.out.put (k := 0) rfl 3 (.int .i64 (y3 : Int)))
      clear hy_
      go_wp2
      go_meet
      case rel => exact ⟨y3, hyb_, hid HY_.out.symm, HZ_⟩
    | false =>
      go_wp2
      go_meet
      case rel => exact ⟨x3, by omega, hid rfl, HP2⟩
  case rest =>
  obtain ⟨wc2, hwc_⟩ : ∃ x, x = wc := ⟨_, rfl⟩
  subst hwc_
  obtain ⟨y3, hb_y3, HYy3, HP3⟩ := hcut
  clear HP2
  rw [← HYy3.out] at HSn
  clear HYy3 hbh
  obtain ⟨m1, hm1⟩ : ∃ m1, k + 1 + sz = m1 := ⟨_, rfl⟩
  have em1 : (k : Int) + 1 + (sz : Int) = (m1 : Int) := by omega
  have hm1b : m1 ≤ 32768 := by omega
  rw [hm1] at HSn
  clear hm1 hs1 es1
  go_upto_region 17 with fail
  go_loopw [10, 11] (fun b_ v wr => ∃ q q1 : Nat, ∃ nb : Bool, b_ = .bool nb ∧ v = .int .i64 (q1 : Int) ∧ (q1 ≤ q + 1 ∧ q + 1 ≤ q1) ∧ q ≤ rf ∧ Hid (nb = false ↔ rfAllW E.W (k + 1) q) ∧ Hid (OwV (MM l E) w [(u, 36, [.int .i64 (y0 : Int), .int .i64 (x1 : Int), .int .i64 (y2 : Int), .int .i64 (y3 : Int), .int .i64 (x4 : Int)]), (r, 36, [.int .i64 0, .int .i64 0, .int .i64 0, .int .i64 0, .int .i64 0])] wr)) (fun _ v _ => 10000 - (intOf v).toNat)
  case atStart => exact ⟨0, 1, false, rfl, rfl, by omega, by omega, hid ⟨fun _ i hi => by omega, fun _ => rfl⟩, HP3⟩
  case round =>
  clear HP3
  obtain ⟨q, q1, nb, rfl, rfl, hq1, hq, HNB, HP3⟩ := hrel
  by_cases hqr : q < rf
  · have dq : decide ((q1 : Int) ≤ (rf : Int)) = true := decide_eq_true (by omega)
    have dqn : decide (q1 ≤ rf) = true := decide_eq_true (by omega)
    have c0 := HP3.out.b.cells.1
    obtain ⟨y, hy⟩ : ∃ y, k + q1 = y := ⟨_, rfl⟩
    have ey : (k : Int) + (q1 : Int) = (y : Int) := by omega
    have hyb : y < 32768 := by omega
    have cw := HP3.out.b.word hyb
    have HWy : Hid (E.W (k + 1 + q) = E.W y) := hid (by rw [show k + 1 + q = y by omega])
    obtain ⟨x, hx⟩ : ∃ x, E.W y = x := ⟨_, rfl⟩
    rw [hx] at cw HWy
    clear hx hy
    have HI2 := hid (fun wz => refOkM (x : Int) wz)
    by_cases hr : rfOk (x : Int)
    · as_aux_lemma =>
      rw [decide_eq_true hr] at HI2
      have HN2 : Hid (nb = false ↔ rfAllW E.W (k + 1) (q + 1)) := hid (by
        rw [HNB.out]
        constructor
        · intro hh j hj
          by_cases e : j = q
          · rw [e, HWy.out]; exact hr
          · exact hh j (by omega)
        · intro hh j hj
          exact hh j (by omega))
      clear HNB hr HWy
      (go_wp2_with fail; refine (HI2.out _).mono ?_; rintro e_ w_ ⟨he_, hw_⟩; subst he_; have hs_ := hw_.symm; clear hw_; subst hs_)
      go_wp2
      exact ⟨⟨q + 1, q1 + 1, nb, rfl, by go_num, by omega, by omega, HN2, HP3⟩, by simp [intOf]; omega⟩
    · as_aux_lemma =>
      rw [decide_eq_false hr] at HI2
      have HN2 : Hid (true = false ↔ rfAllW E.W (k + 1) (q + 1)) := hid ⟨fun h => absurd h (by decide), fun hh => absurd (by have := hh q (by omega); rw [HWy.out] at this; exact this) hr⟩
      clear HNB hr HWy
      (go_wp2_with fail; refine (HI2.out _).mono ?_; rintro e_ w_ ⟨he_, hw_⟩; subst he_; have hs_ := hw_.symm; clear hw_; subst hs_)
      go_wp2
      exact ⟨⟨q + 1, q1 + 1, true, rfl, by go_num, by omega, by omega, HN2, HP3⟩, by simp [intOf]; omega⟩
  have dq : decide ((q1 : Int) ≤ (rf : Int)) = false := decide_eq_false (by omega)
  have dqn : decide (q1 ≤ rf) = false := decide_eq_false (by omega)
  have enb : nb = !bd := by
    have h1 := HNB.out
    rw [show q = rf by omega] at h1
    have h2 := Hrf.out 0
    cases nb <;> cases bd <;> simp_all
  rw [← enb] at HSn
  clear HNB Hrf enb
  go_upto_if 77 with fail
  go_cut [] from 78 to 81 (fun wf => ∃ y4 : Nat, y4 ≤ 16384 + 1 ∧ Hid (y4 = x4 + (nb).toNat) ∧ Hid (OwV (MM l E) w [(u, 36, [.int .i64 (y0 : Int), .int .i64 (x1 : Int), .int .i64 (y2 : Int), .int .i64 (y3 : Int), .int .i64 (y4 : Int)]), (r, 36, [.int .i64 0, .int .i64 0, .int .i64 0, .int .i64 0, .int .i64 0])] wf))
  case first =>
    cases nb with
    | true =>
      have cx_ : wr.cell? ⟨u, 4, none⟩ = some (.int .i64 (x4 : Int)) := HP3.out.cell (k := 0) rfl 4
      have zx_ : wr.frozen? ⟨u, 4, none⟩ = false := HP3.out.frozen (k := 0) rfl 4
      obtain ⟨y4, hy_⟩ : ∃ y, x4 + 1 = y := ⟨_, rfl⟩
      have ey_ : (x4 : Int) + 1 = (y4 : Int) := by omega
      have hyb_ : y4 ≤ 16384 + 1 := by omega
      have HY_ := hid hy_
      have HZ_ : Hid (OwV (MM l E) w [(u, 36, [.int .i64 (y0 : Int), .int .i64 (x1 : Int), .int .i64 (y2 : Int), .int .i64 (y3 : Int), .int .i64 (y4 : Int)]), (r, 36, [.int .i64 0, .int .i64 0, .int .i64 0, .int .i64 0, .int .i64 0])] (wr.setCell ⟨u, 4, none⟩ (.int .i64 (y4 : Int)))) := hid (HP3.out.put (k := 0) rfl 4 (.int .i64 (y4 : Int)))
      clear hy_
      go_wp2
      go_meet
      case rel => exact ⟨y4, hyb_, hid HY_.out.symm, HZ_⟩
    | false =>
      go_wp2
      go_meet
      case rel => exact ⟨x4, by omega, hid rfl, HP3⟩
  case rest =>
  obtain ⟨wf, hwc_⟩ : ∃ x, x = wc := ⟨_, rfl⟩
  subst hwc_
  obtain ⟨y4, hb_y4, HYy4, HP4⟩ := hcut
  clear HP3
  rw [← HYy4.out] at HSn
  clear HYy4
  by_cases hme : m1 > en
  · as_aux_lemma =>
    have dm : decide ((m1 : Int) > (en : Int)) = true := decide_eq_true (by omega)
    have dm' : decide ((en : Int) < (m1 : Int)) = true := decide_eq_true (by omega)
    have dmn : decide (en < m1) = true := decide_eq_true hme
    go_wp2
    exact ⟨⟨g + 1, y0, x1, y2, y3, y4, m1, rfl, by go_num, by omega, hid (by rw [HSn.out]; exact ⟨rfl, rfl, rfl, rfl, rfl, by show m1 = max en m1; omega⟩), HP4⟩, by simp [intOf]; omega⟩
  · as_aux_lemma =>
    have dm : decide ((m1 : Int) > (en : Int)) = false := decide_eq_false (by omega)
    have dm' : decide ((en : Int) < (m1 : Int)) = false := decide_eq_false (by omega)
    have dmn : decide (en < m1) = false := decide_eq_false hme
    go_wp2
    exact ⟨⟨g + 1, y0, x1, y2, y3, y4, en, rfl, by go_num, by omega, hid (by rw [HSn.out]; exact ⟨rfl, rfl, rfl, rfl, rfl, by show en = max en m1; omega⟩), HP4⟩, by simp [intOf]; omega⟩
end
end Go.Proofs.Qxb6500887aGreat
