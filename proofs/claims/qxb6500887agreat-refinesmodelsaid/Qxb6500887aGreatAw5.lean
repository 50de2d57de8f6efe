/- The model's blockInfo (written by tools/mk_aw5.py). -/
import Derived.Test.Qxb6500887aGreatAw4
import Derived.Deep.DeepCutAuto
namespace Go.Proofs.Qxb6500887aGreat
open Go.RowKit
set_option linter.unusedSimpArgs false
set_option linter.unusedVariables false
/-- What is told of a block: the class apart, the rest as numbers. -/
noncomputable def bkL (E : ES) (b : Nat) : List Nat := [flE E.T b 32, cnt (fun r => shB E.T b 0 r) 32, (lhF E.T b 32).2, cnt (fun i => !(E.C (256 * b + i) == 0)) 256, cnt (fun i => E.K (256 * b + i)) 256, cnt (fun i => E.G (512 * b + i)) 512]
noncomputable def bkC (E : ES) (b : Nat) : List Value := .int .u8 (clM (flE E.T b 32)) :: (bkL E b).map natV
theorem bkC_one (E : ES) (b : Nat) : ∀ u ∈ bkC E b, u.oneCell' = true := by
  intro u hu
  unfold bkC at hu
  rcases List.mem_cons.1 hu with rfl | hu
  · rfl
  · exact natV_one _ u hu
section
variable {l : ML} {E : ES} {w w' w0 : World}
set_option maxRecDepth 100000 in
set_option maxHeartbeats 8000000 in
theorem blockInfoM (h : MM l E w) {b : Nat} (hb : b < 64) : Calls Tryz.prog 201 #[.pointer (some ⟨l.m, 0, none⟩), .int .i64 (b : Int)] w fun e w' => e = .returned (.agg (bkC E b).toArray) ∧ Hid (Below w.heap.size w w') := by
  have I0 := hid info_bi
  have HF : Hid (∀ wz, MM l E wz → Calls Tryz.prog 116 #[.pointer (some ⟨l.m, 0, none⟩), .int .i64 (b : Int)] wz fun e w' => e = .returned (.int .i64 ((flE E.T b 32 : Nat) : Int)) ∧ w' = wz) := hid (fun wz hz => flsM hz hb)
  have HCl := hid (fun wz => claM (flE E.T b 32) wz)
  obtain ⟨R, hR⟩ : ∃ R, bkC E b = R := ⟨_, rfl⟩
  rw [hR]
  unfold bkC bkL at hR
  obtain ⟨fl, hfl⟩ : ∃ fl, flE E.T b 32 = fl := ⟨_, rfl⟩
  have hflb : fl ≤ 32 := by rw [← hfl]; exact cnt_bound _ _
  rw [hfl] at HF HCl hR
  clear hfl
  obtain ⟨ck, hck⟩ : ∃ ck, clM fl = ck := ⟨_, rfl⟩
  rw [hck] at HCl hR
  clear hck
  have HRR := hid hR
  clear hR
  obtain ⟨r, hr⟩ : ∃ r, w.heap.size = r := ⟨_, rfl⟩
  have H0 : Hid (OwV (MM l E) w [(r, 41, [.int .u8 0, .int .i64 0, .int .i64 0, .int .i64 0, .int .i64 0, .int .i64 0, .int .i64 0])] (w.alloc (.cells #[.int .u8 0, .int .i64 0, .int .i64 0, .int .i64 0, .int .i64 0, .int .i64 0, .int .i64 0] 41))) := hid ((OwV.start h MM.stays).new hr 41 [.int .u8 0, .int .i64 0, .int .i64 0, .int .i64 0, .int .i64 0, .int .i64 0, .int .i64 0])
  clear h
  go_enter Tryz.func201, Tryz.ntmps201
  go_upto_region 1 with fail
  (try simp only [hr])
  generalize hw1 : w.alloc _ = w1 at H0 ⊢
  clear hw1 hr
  obtain ⟨u, hu⟩ : ∃ u, w1.heap.size = u := ⟨_, rfl⟩
  have H1 : Hid (OwV (MM l E) w [(u, 41, [.int .u8 0, .int .i64 0, .int .i64 0, .int .i64 0, .int .i64 0, .int .i64 0, .int .i64 0]), (r, 41, [.int .u8 0, .int .i64 0, .int .i64 0, .int .i64 0, .int .i64 0, .int .i64 0, .int .i64 0])] (w1.alloc (.cells #[.int .u8 0, .int .i64 0, .int .i64 0, .int .i64 0, .int .i64 0, .int .i64 0, .int .i64 0] 41))) := hid (H0.out.new hu 41 [.int .u8 0, .int .i64 0, .int .i64 0, .int .i64 0, .int .i64 0, .int .i64 0, .int .i64 0])
  go_upto_region 2 with fail
  (try simp only [hu])
  generalize hw2 : w1.alloc _ = w2 at H1 ⊢
  clear hw2 hu H0
  (go_wp2_with fail; refine (HF.out _ H1.out.b).mono ?_; rintro e_ w_ ⟨he_, hw_⟩; subst he_; have hs_ := hw_.symm; clear hw_; subst hs_)
  have cx_ : w2.cell? ⟨u, 1, none⟩ = some (.int .i64 0) := H1.out.cell (k := 0) rfl 1
  have zx_ : w2.frozen? ⟨u, 1, none⟩ = false := H1.out.frozen (k := 0) rfl 1
  have H2 : Hid (OwV (MM l E) w [(u, 41, [.int .u8 0, .int .i64 (fl : Int), .int .i64 0, .int .i64 0, .int .i64 0, .int .i64 0, .int .i64 0]), (r, 41, [.int .u8 0, .int .i64 0, .int .i64 0, .int .i64 0, .int .i64 0, .int .i64 0, .int .i64 0])] (w2.setCell ⟨u, 1, none⟩ (.int .i64 (fl : Int)))) := hid (H1.out.put (k := 0) rfl 1 (.int .i64 (fl : Int)))
  go_upto_region 3 with fail
  generalize hz_ : World.setCell _ _ _ = w3 at H2 ⊢
  clear hz_ cx_ zx_ H1
  have cf : w3.cell? ⟨u, 1, none⟩ = some (.int .i64 (fl : Int)) := H2.out.cell (k := 0) rfl 1
  (go_wp2_with fail; refine (HCl.out _).mono ?_; rintro e_ w_ ⟨he_, hw_⟩; subst he_; have hs_ := hw_.symm; clear hw_; subst hs_)
  have cx_ : w3.cell? ⟨u, 0, none⟩ = some (.int .u8 0) := H2.out.cell (k := 0) rfl 0
  have zx_ : w3.frozen? ⟨u, 0, none⟩ = false := H2.out.frozen (k := 0) rfl 0
  have H3 : Hid (OwV (MM l E) w [(u, 41, [.int .u8 ck, .int .i64 (fl : Int), .int .i64 0, .int .i64 0, .int .i64 0, .int .i64 0, .int .i64 0]), (r, 41, [.int .u8 0, .int .i64 0, .int .i64 0, .int .i64 0, .int .i64 0, .int .i64 0, .int .i64 0])] (w3.setCell ⟨u, 0, none⟩ (.int .u8 ck))) := hid (H2.out.put (k := 0) rfl 0 (.int .u8 ck))
  go_upto_region 4 with fail
  generalize hz_ : World.setCell _ _ _ = w4 at H3 ⊢
  clear hz_ cx_ zx_ H2
  clear cf HF HCl
  go_upto_region 5 with fail
  go_loopw [6] (fun v wr => ∃ q x2 x3 : Nat, v = .int .i64 (q : Int) ∧ q ≤ 32 ∧ (x2 ≤ 32 ∧ x3 ≤ 32) ∧ Hid (x2 = cnt (fun r => shB E.T b 0 r) q ∧ x3 = (lhF E.T b q).2) ∧ Hid (OwV (MM l E) w [(u, 41, [.int .u8 ck, .int .i64 (fl : Int), .int .i64 (x2 : Int), .int .i64 (x3 : Int), .int .i64 0, .int .i64 0, .int .i64 0]), (r, 41, [.int .u8 0, .int .i64 0, .int .i64 0, .int .i64 0, .int .i64 0, .int .i64 0, .int .i64 0])] wr)) (fun v _ => 32 - (intOf v).toNat)
  case atStart => exact ⟨0, 0, 0, rfl, by omega, by omega, hid ⟨rfl, rfl⟩, H3⟩
  case round =>
  clear H3
  obtain ⟨q, x2, x3, rfl, hq, ⟨lx2, lx3⟩, HS, HK⟩ := hrel
  by_cases hqn : q < 32
  rotate_left
  · as_aux_lemma =>
    have dq : decide ((q : Int) < 32) = false := decide_eq_false (by omega)
    have HS2 : Hid (x2 = cnt (fun r => shB E.T b 0 r) 32 ∧ x3 = (lhF E.T b 32).2) := hid (by have := HS.out; rw [show q = 32 by omega] at this; exact this)
    clear HS
    obtain ⟨W0, hW0⟩ : ∃ W0, 512 * b = W0 := ⟨_, rfl⟩
    obtain ⟨W1, hW1⟩ : ∃ W1, 512 * b + 512 = W1 := ⟨_, rfl⟩
    have e0 : (b : Int) * 512 = (W0 : Int) := by omega
    have e1 : ((b : Int) + 1) * 512 = (W1 : Int) := by omega
    have hwb : W0 ≤ 512 * b ∧ 512 * b ≤ W0 ∧ W1 ≤ W0 + 512 ∧ W0 + 512 ≤ W1 := by omega
    clear hW0 hW1
    go_upto_region 12 with fail
    go_loopw [7] (fun v wr => ∃ j W2 x4 x5 x6 : Nat, v = .int .i64 (W2 : Int) ∧ (W2 ≤ W0 + j ∧ W0 + j ≤ W2) ∧ j ≤ 512 ∧ (x4 ≤ 512 ∧ x5 ≤ 512 ∧ x6 ≤ 512) ∧ Hid (x4 = cnt (fun i => !(E.C (256 * b + i) == 0)) ((j + 1) / 2) ∧ x5 = cnt (fun i => E.K (256 * b + i)) ((j + 1) / 2) ∧ x6 = cnt (fun i => E.G (512 * b + i)) j) ∧ Hid (OwV (MM l E) w [(u, 41, [.int .u8 ck, .int .i64 (fl : Int), .int .i64 (x2 : Int), .int .i64 (x3 : Int), .int .i64 (x4 : Int), .int .i64 (x5 : Int), .int .i64 (x6 : Int)]), (r, 41, [.int .u8 0, .int .i64 0, .int .i64 0, .int .i64 0, .int .i64 0, .int .i64 0, .int .i64 0])] wr)) (fun v _ => 40000 - (intOf v).toNat)
    case atStart => exact ⟨0, W0, 0, 0, 0, rfl, by omega, by omega, by omega, hid ⟨rfl, rfl, rfl⟩, HK⟩
    case round =>
    clear HK
    obtain ⟨j, W2, x4, x5, x6, rfl, hW2, hj, ⟨lx4, lx5, lx6⟩, HX, HK⟩ := hrel
    by_cases hjn : j < 512
    rotate_left
    · as_aux_lemma =>
      have dj : decide ((W2 : Int) < (W1 : Int)) = false := decide_eq_false (by omega)
      have djn : decide (W2 < W1) = false := decide_eq_false (by omega)
      have HE : Hid ([.int .u8 ck, .int .i64 (fl : Int), .int .i64 (x2 : Int), .int .i64 (x3 : Int), .int .i64 (x4 : Int), .int .i64 (x5 : Int), .int .i64 (x6 : Int)] = R) := hid (by
        obtain ⟨a2, a3⟩ := HS2.out
        obtain ⟨a4, a5, a6⟩ := HX.out
        rw [show j = 512 by omega] at a4 a5 a6
        rw [← HRR.out, a2, a3, a4, a5, a6]
        rfl)
      have HO1 : Hid (∀ u ∈ R, u.oneCell' = true) := hid (by
        rw [← HRR.out]
        intro u hu
        rcases List.mem_cons.1 hu with rfl | hu
        · rfl
        · exact natV_one _ u hu)
      clear HS2 HX HRR
      have Hx := hid (HK.out.blk (k := 0) rfl)
      have Hy := hid (HK.out.blk (k := 1) rfl)
      go_wp2_with (first | (refine wpList_load_blk rfl 41 _ rfl u rfl [.int .u8 ck, .int .i64 (fl : Int), .int .i64 (x2 : Int), .int .i64 (x3 : Int), .int .i64 (x4 : Int), .int .i64 (x5 : Int), .int .i64 (x6 : Int)] Hx.out _ Tryz.underlying41 rfl I0.out ?_) | (refine wpList_store_blk rfl 41 _ _ rfl r rfl [.int .u8 ck, .int .i64 (fl : Int), .int .i64 (x2 : Int), .int .i64 (x3 : Int), .int .i64 (x4 : Int), .int .i64 (x5 : Int), .int .i64 (x6 : Int)] rfl Hy.out rfl I0.out (by rw [HE.out]; exact HO1.out) ?_; intro w9 HB9 HU9))
      refine bodyPost_ret (results_blk (cs := [.int .u8 ck, .int .i64 (fl : Int), .int .i64 (x2 : Int), .int .i64 (x3 : Int), .int .i64 (x4 : Int), .int .i64 (x5 : Int), .int .i64 (x6 : Int)]) Tryz.results201 rfl agg_bi HB9.out) rfl ?_
      exact ⟨by rw [HE.out], hid (HK.out.out (k := 1) rfl HU9.out)⟩
    as_aux_lemma =>
    have dj : decide ((W2 : Int) < (W1 : Int)) = true := decide_eq_true (by omega)
    have djn : decide (W2 < W1) = true := decide_eq_true (by omega)
    have hW2b : W2 < 32768 := by omega
    obtain ⟨W3, hW3⟩ : ∃ W3, W2 + 1 = W3 := ⟨_, rfl⟩
    have eW3 : (W2 : Int) + 1 = (W3 : Int) := by omega
    have hW3e : W3 ≤ W0 + (j + 1) ∧ W0 + (j + 1) ≤ W3 := by omega
    clear hW3
    have c3 := HK.out.b.cells.2.2.2.1
    have cg := HK.out.b.log hW2b
    have HX6 : Hid (cnt (fun i => E.G (512 * b + i)) (j + 1) = x6 + (E.G W2).toNat) := hid (by rw [show W2 = 512 * b + j by omega, HX.out.2.2]; rfl)
    obtain ⟨b6, hb6⟩ : ∃ b6, E.G W2 = b6 := ⟨_, rfl⟩
    rw [hb6] at cg HX6
    clear hb6
    have h6b : x6 + b6.toNat ≤ 512 := by rw [← HX6.out]; exact Nat.le_trans (cnt_bound _ _) (by omega)
    go_upto_if 55 with fail
    go_cut [] from 56 to 59 (fun wd => ∃ y6 : Nat, y6 ≤ 512 + 1 ∧ Hid (y6 = x6 + (b6).toNat) ∧ Hid (OwV (MM l E) w [(u, 41, [.int .u8 ck, .int .i64 (fl : Int), .int .i64 (x2 : Int), .int .i64 (x3 : Int), .int .i64 (x4 : Int), .int .i64 (x5 : Int), .int .i64 (y6 : Int)]), (r, 41, [.int .u8 0, .int .i64 0, .int .i64 0, .int .i64 0, .int .i64 0, .int .i64 0, .int .i64 0])] wd))
    case first =>
      cases b6 with
      | true =>
        have cx_ : wr.cell? ⟨u, 6, none⟩ = some (.int .i64 (x6 : Int)) := HK.out.cell (k := 0) rfl 6
        have zx_ : wr.frozen? ⟨u, 6, none⟩ = false := HK.out.frozen (k := 0) rfl 6
        obtain ⟨y6, hy_⟩ : ∃ y, x6 + 1 = y := ⟨_, rfl⟩
        have ey_ : (x6 : Int) + 1 = (y6 : Int) := by omega
        have hyb_ : y6 ≤ 512 + 1 := by omega
        have HY_ := hid hy_
        have HZ_ : Hid (OwV (MM l E) w [(u, 41, [.int .u8 ck, .int .i64 (fl : Int), .int .i64 (x2 : Int), .int .i64 (x3 : Int), .int .i64 (x4 : Int), .int .i64 (x5 : Int), .int .i64 (y6 : Int)]), (r, 41, [.int .u8 0, .int .i64 0, .int .i64 0, .int .i64 0, .int .i64 0, .int .i64 0, .int .i64 0])] (wr.setCell ⟨u, 6, none⟩ (.int .i64 (y6 : Int)))) := hid (HK.out.put (k := 0) rfl 6 (.int .i64 (y6 : Int)))
        clear hy_
        go_wp2
        go_meet
        case rel => exact ⟨y6, hyb_, hid HY_.out.symm, HZ_⟩
      | false =>
        go_wp2
        go_meet
        case rel => exact ⟨x6, by omega, hid rfl, HK⟩
    case rest =>
    obtain ⟨wd, hwc_⟩ : ∃ x, x = wc := ⟨_, rfl⟩
    subst hwc_
    obtain ⟨y6, hb_y6, HYy6, HQ6⟩ := hcut
    clear HK
    have h6c : y6 ≤ 512 := by rw [HYy6.out]; exact h6b
    rw [← HYy6.out] at HX6
    clear HYy6 c3 cg h6b hb_y6
    have em : (W2 : Int).tmod 2 = (W2 : Int) % 2 := Int.tmod_eq_emod_of_nonneg (by omega)
    by_cases hev : j % 2 = 0
    rotate_left
    · as_aux_lemma =>
      have de : ((W2 : Int) % 2 != 0) = true := by simp; omega
      have de' : ((W2 : Int) % 2 == 0) = false := by simp; omega
      have HN : Hid (x4 = cnt (fun i => !(E.C (256 * b + i) == 0)) ((j + 1 + 1) / 2) ∧ x5 = cnt (fun i => E.K (256 * b + i)) ((j + 1 + 1) / 2) ∧ y6 = cnt (fun i => E.G (512 * b + i)) (j + 1)) := hid (by
        obtain ⟨a4, a5, a6⟩ := HX.out
        rw [show (j + 1 + 1) / 2 = (j + 1) / 2 by omega]
        exact ⟨a4, a5, HX6.out.symm⟩)
      clear HX HX6
      go_wp2
      exact ⟨⟨j + 1, W3, x4, x5, y6, rfl, hW3e, by omega, ⟨lx4, lx5, h6c⟩, HN, HQ6⟩, by simp [intOf]; omega⟩
    have de : ((W2 : Int) % 2 != 0) = false := by simp; omega
    have de' : ((W2 : Int) % 2 == 0) = true := by simp; omega
    obtain ⟨g, hg⟩ : ∃ g, W2 / 2 = g := ⟨_, rfl⟩
    have hgb : g < 16384 := by omega
    have eg : (W2 : Int).tdiv 2 = (g : Int) := by rw [Int.tdiv_eq_ediv_of_nonneg (by omega)]; omega
    have eg' : (W2 : Int) / 2 = (g : Int) := by omega
    have HX4 : Hid (cnt (fun i => !(E.C (256 * b + i) == 0)) ((j + 1 + 1) / 2) = x4 + (!(E.C g == 0)).toNat ∧ cnt (fun i => E.K (256 * b + i)) ((j + 1 + 1) / 2) = x5 + (E.K g).toNat) := hid (by
      obtain ⟨a4, a5, a6⟩ := HX.out
      rw [show (j + 1 + 1) / 2 = (j + 1) / 2 + 1 by omega, a4, a5, show g = 256 * b + (j + 1) / 2 by omega]
      exact ⟨rfl, rfl⟩)
    clear hg HX
    have c1 := HQ6.out.b.cells.2.1
    have cc := HQ6.out.b.count hgb
    obtain ⟨cv, hcv⟩ : ∃ cv, E.C g = cv := ⟨_, rfl⟩
    rw [hcv] at cc HX4
    clear hcv
    obtain ⟨b4, hb4⟩ : ∃ b4 : Bool, ((cv : Int) != 0) = b4 := ⟨_, rfl⟩
    rw [show (!(cv == 0)) = b4 by rw [← hb4]; exact bne_cast cv 0] at HX4
    have h4b : x4 + b4.toNat ≤ 512 ∧ x5 + (E.K g).toNat ≤ 512 := by
      have e1 := HX4.out.1
      have e2 := HX4.out.2
      have k1 := cnt_bound (fun i => !(E.C (256 * b + i) == 0)) ((j + 1 + 1) / 2)
      have k2 := cnt_bound (fun i => E.K (256 * b + i)) ((j + 1 + 1) / 2)
      omega
    go_upto_if 71 with fail
    go_cut [] from 72 to 75 (fun we => ∃ y4 : Nat, y4 ≤ 512 + 1 ∧ Hid (y4 = x4 + (b4).toNat) ∧ Hid (OwV (MM l E) w [(u, 41, [.int .u8 ck, .int .i64 (fl : Int), .int .i64 (x2 : Int), .int .i64 (x3 : Int), .int .i64 (y4 : Int), .int .i64 (x5 : Int), .int .i64 (y6 : Int)]), (r, 41, [.int .u8 0, .int .i64 0, .int .i64 0, .int .i64 0, .int .i64 0, .int .i64 0, .int .i64 0])] we))
    case first =>
      cases b4 with
      | true =>
        have cx_ : wd.cell? ⟨u, 4, none⟩ = some (.int .i64 (x4 : Int)) := HQ6.out.cell (k := 0) rfl 4
        have zx_ : wd.frozen? ⟨u, 4, none⟩ = false := HQ6.out.frozen (k := 0) rfl 4
        obtain ⟨y4, hy_⟩ : ∃ y, x4 + 1 = y := ⟨_, rfl⟩
        have ey_ : (x4 : Int) + 1 = (y4 : Int) := by omega
        have hyb_ : y4 ≤ 512 + 1 := by omega
        have HY_ := hid hy_
        have HZ_ : Hid (OwV (MM l E) w [(u, 41, [.int .u8 ck, .int .i64 (fl : Int), .int .i64 (x2 : Int), .int .i64 (x3 : Int), .int .i64 (y4 : Int), .int .i64 (x5 : Int), .int .i64 (y6 : Int)]), (r, 41, [.int .u8 0, .int .i64 0, .int .i64 0, .int .i64 0, .int .i64 0, .int .i64 0, .int .i64 0])] (wd.setCell ⟨u, 4, none⟩ (.int .i64 (y4 : Int)))) := hid (HQ6.out.put (k := 0) rfl 4 (.int .i64 (y4 : Int)))
        clear hy_
        go_wp2
        go_meet
        case rel => exact ⟨y4, hyb_, hid HY_.out.symm, HZ_⟩
      | false =>
        go_wp2
        go_meet
        case rel => exact ⟨x4, by omega, hid rfl, HQ6⟩
    case rest =>
    obtain ⟨we, hwc_⟩ : ∃ x, x = wc := ⟨_, rfl⟩
    subst hwc_
    obtain ⟨y4, hb_y4, HYy4, HQ4⟩ := hcut
    clear HQ6
    clear c1 cc hb4
    have h4c : y4 ≤ 512 := by rw [HYy4.out]; exact h4b.1
    have c2 := HQ4.out.b.cells.2.2.1
    have ck2 := HQ4.out.b.mark hgb
    obtain ⟨b5, hb5⟩ : ∃ b5, E.K g = b5 := ⟨_, rfl⟩
    rw [hb5] at ck2 HX4 h4b
    clear hb5
    have h5c := h4b.2
    clear h4b
    cases b5 with
    | true =>
      have cx_ : we.cell? ⟨u, 5, none⟩ = some (.int .i64 (x5 : Int)) := HQ4.out.cell (k := 0) rfl 5
      have zx_ : we.frozen? ⟨u, 5, none⟩ = false := HQ4.out.frozen (k := 0) rfl 5
      obtain ⟨y5, hy_⟩ : ∃ y, x5 + 1 = y := ⟨_, rfl⟩
      have ey_ : (x5 : Int) + 1 = (y5 : Int) := by omega
      have hyb_ : y5 ≤ 512 + 1 := by omega
      have HYy5 : Hid (y5 = x5 + (true).toNat) := hid hy_.symm
      have HQ5 : Hid (OwV (MM l E) w [(u, 41, [.int .u8 ck, .int .i64 (fl : Int), .int .i64 (x2 : Int), .int .i64 (x3 : Int), .int .i64 (y4 : Int), .int .i64 (y5 : Int), .int .i64 (y6 : Int)]), (r, 41, [.int .u8 0, .int .i64 0, .int .i64 0, .int .i64 0, .int .i64 0, .int .i64 0, .int .i64 0])] (we.setCell ⟨u, 5, none⟩ (.int .i64 (y5 : Int)))) := hid (HQ4.out.put (k := 0) rfl 5 (.int .i64 (y5 : Int)))
      clear hy_ HQ4
      have HN : Hid (y4 = cnt (fun i => !(E.C (256 * b + i) == 0)) ((j + 1 + 1) / 2) ∧ y5 = cnt (fun i => E.K (256 * b + i)) ((j + 1 + 1) / 2) ∧ y6 = cnt (fun i => E.G (512 * b + i)) (j + 1)) := hid (by
        obtain ⟨a4, a5⟩ := HX4.out
        rw [a4, a5, ← HYy4.out, ← HYy5.out]
        exact ⟨rfl, rfl, HX6.out.symm⟩)
      have l5 : y5 ≤ 512 := by have := HYy5.out; omega
      clear HYy4 HYy5 HX4 HX6
      go_wp2
      exact ⟨⟨j + 1, W3, y4, y5, y6, rfl, hW3e, by omega, ⟨h4c, l5, h6c⟩, HN, HQ5⟩, by simp [intOf]; omega⟩
    | false =>
      obtain ⟨y5, hy_⟩ : ∃ y, y = x5 := ⟨_, rfl⟩
      subst hy_
      have HYy5 : Hid (y5 = y5 + (false).toNat) := hid rfl
      have HQ5 := HQ4
      clear HQ4
      have HN : Hid (y4 = cnt (fun i => !(E.C (256 * b + i) == 0)) ((j + 1 + 1) / 2) ∧ y5 = cnt (fun i => E.K (256 * b + i)) ((j + 1 + 1) / 2) ∧ y6 = cnt (fun i => E.G (512 * b + i)) (j + 1)) := hid (by
        obtain ⟨a4, a5⟩ := HX4.out
        rw [a4, a5, ← HYy4.out, ← HYy5.out]
        exact ⟨rfl, rfl, HX6.out.symm⟩)
      have l5 : y5 ≤ 512 := by have := HYy5.out; omega
      clear HYy4 HYy5 HX4 HX6
      go_wp2
      exact ⟨⟨j + 1, W3, y4, y5, y6, rfl, hW3e, by omega, ⟨h4c, l5, h6c⟩, HN, HQ5⟩, by simp [intOf]; omega⟩
  as_aux_lemma =>
  have dq : decide ((q : Int) < 32) = true := decide_eq_true (by omega)
  have HSh : Hid (∀ wz, MM l E wz → Calls Tryz.prog 194 #[.pointer (some ⟨l.m, 0, none⟩), .int .i64 (b : Int), .int .i64 0, .int .i64 (q : Int)] wz fun e w' => e = .returned (.bool (shB E.T b 0 q)) ∧ w' = wz) := hid (fun wz hz => shM (f := 0) hz hb hqn (by omega))
  have HHa : Hid (∀ wz, MM l E wz → Calls Tryz.prog 195 #[.pointer (some ⟨l.m, 0, none⟩), .int .i64 (b : Int), .int .i64 (q : Int)] wz fun e w' => e = .returned (.int .i64 ((hlN E.T b q : Nat) : Int)) ∧ w' = wz) := hid (fun wz hz => haN hz hb (by omega))
  have HS2 : Hid (cnt (fun r => shB E.T b 0 r) (q + 1) = x2 + (shB E.T b 0 q).toNat ∧ (lhF E.T b (q + 1)).2 = if x3 < hlN E.T b q then hlN E.T b q else x3) := hid (by
    obtain ⟨a2, a3⟩ := HS.out
    refine ⟨by rw [a2]; rfl, ?_⟩
    show (if (lhF E.T b q).2 < hlN E.T b q then (q, hlN E.T b q) else lhF E.T b q).2 = _
    rw [a3]
    split <;> rfl)
  have h2q : x2 ≤ q := by rw [HS.out.1]; exact cnt_bound _ _
  have hlb : hlN E.T b q ≤ 32 := hlN_le
  obtain ⟨b2, hb2⟩ : ∃ b2, shB E.T b 0 q = b2 := ⟨_, rfl⟩
  obtain ⟨hl, hhl⟩ : ∃ hl, hlN E.T b q = hl := ⟨_, rfl⟩
  rw [hb2] at HSh HS2
  rw [hhl] at HHa HS2 hlb
  clear hb2 hhl HS
  (go_wp2_with fail; refine (HSh.out _ HK.out.b).mono ?_; rintro e_ w_ ⟨he_, hw_⟩; subst he_; have hs_ := hw_.symm; clear hw_; subst hs_)
  clear HSh
  go_upto_if 23 with fail
  go_cut [] from 24 to 27 (fun wd => ∃ y2 : Nat, y2 ≤ 32 + 1 ∧ Hid (y2 = x2 + (b2).toNat) ∧ Hid (OwV (MM l E) w [(u, 41, [.int .u8 ck, .int .i64 (fl : Int), .int .i64 (y2 : Int), .int .i64 (x3 : Int), .int .i64 0, .int .i64 0, .int .i64 0]), (r, 41, [.int .u8 0, .int .i64 0, .int .i64 0, .int .i64 0, .int .i64 0, .int .i64 0, .int .i64 0])] wd))
  case first =>
    cases b2 with
    | true =>
      have cx_ : wr.cell? ⟨u, 2, none⟩ = some (.int .i64 (x2 : Int)) := HK.out.cell (k := 0) rfl 2
      have zx_ : wr.frozen? ⟨u, 2, none⟩ = false := HK.out.frozen (k := 0) rfl 2
      obtain ⟨y2, hy_⟩ : ∃ y, x2 + 1 = y := ⟨_, rfl⟩
      have ey_ : (x2 : Int) + 1 = (y2 : Int) := by omega
      have hyb_ : y2 ≤ 32 + 1 := by omega
      have HY_ := hid hy_
      have HZ_ : Hid (OwV (MM l E) w [(u, 41, [.int .u8 ck, .int .i64 (fl : Int), .int .i64 (y2 : Int), .int .i64 (x3 : Int), .int .i64 0, .int .i64 0, .int .i64 0]), (r, 41, [.int .u8 0, .int .i64 0, .int .i64 0, .int .i64 0, .int .i64 0, .int .i64 0, .int .i64 0])] (wr.setCell ⟨u, 2, none⟩ (.int .i64 (y2 : Int)))) := hid (HK.out.put (k := 0) rfl 2 (.int .i64 (y2 : Int)))
      clear hy_
      go_wp2
      go_meet
      case rel => exact ⟨y2, hyb_, hid HY_.out.symm, HZ_⟩
    | false =>
      go_wp2
      go_meet
      case rel => exact ⟨x2, by omega, hid rfl, HK⟩
  case rest =>
  obtain ⟨wd, hwc_⟩ : ∃ x, x = wc := ⟨_, rfl⟩
  subst hwc_
  obtain ⟨y2, hb_y2, HYy2, HQ2⟩ := hcut
  clear HK
  rw [← HYy2.out] at HS2
  have h2c : y2 ≤ 32 := by have := HYy2.out; have : b2.toNat ≤ 1 := by cases b2 <;> decide
                           omega
  clear HYy2 hb_y2
  go_upto_region 9 with fail
  obtain ⟨X', W, HTT, H0, hne, HClo⟩ := class_below wd
  have y1 : ∀ v, (W v).cell? ⟨u, 3, none⟩ = some (.int .i64 (x3 : Int)) := fun v => (HQ2.out.below (HTT.out v)).cell (k := 0) rfl 3
  have HFc := hid (fun v => HHa.out (W v) (HQ2.out.below (HTT.out v)).b)
  refine wp_region_class_lastT W rfl (by kernel_rfl) (by kernel_rfl) (by kernel_rfl) H0.out ?_
  dsimp only [List.dropLast, List.getLast]
  repeat (go_big_quiet_step (with_reducible exact Calls.class_same (HFc.out _)))
  refine wpQuiet_nil ?_
  intro v
  have HR1 := hid (HQ2.out.below (HTT.out v))
  generalize W v = w5 at HR1 ⊢
  clear y1 H0 HTT HClo hne HQ2 HFc
  by_cases hlt : x3 < hl
  · as_aux_lemma =>
    rw [if_pos hlt] at HS2
    have d1 : decide ((hl : Int) > (x3 : Int)) = true := decide_eq_true (by omega)
    have d1' : decide ((x3 : Int) < (hl : Int)) = true := decide_eq_true (by omega)
    have d1n : decide (x3 < hl) = true := decide_eq_true hlt
    (go_wp2_with fail; refine (HHa.out _ HR1.out.b).mono ?_; rintro e_ w_ ⟨he_, hw_⟩; subst he_; have hs_ := hw_.symm; clear hw_; subst hs_)
    have cx_ : w5.cell? ⟨u, 3, none⟩ = some (.int .i64 (x3 : Int)) := HR1.out.cell (k := 0) rfl 3
    have zx_ : w5.frozen? ⟨u, 3, none⟩ = false := HR1.out.frozen (k := 0) rfl 3
    have HR2 : Hid (OwV (MM l E) w [(u, 41, [.int .u8 ck, .int .i64 (fl : Int), .int .i64 (y2 : Int), .int .i64 (hl : Int), .int .i64 0, .int .i64 0, .int .i64 0]), (r, 41, [.int .u8 0, .int .i64 0, .int .i64 0, .int .i64 0, .int .i64 0, .int .i64 0, .int .i64 0])] (w5.setCell ⟨u, 3, none⟩ (.int .i64 (hl : Int)))) := hid (HR1.out.put (k := 0) rfl 3 (.int .i64 (hl : Int)))
    go_wp2
    exact ⟨⟨q + 1, y2, hl, by go_num, by omega, by omega, hid ⟨HS2.out.1.symm, HS2.out.2.symm⟩, HR2⟩, by simp [intOf]; omega⟩
  · as_aux_lemma =>
    rw [if_neg hlt] at HS2
    have d1 : decide ((hl : Int) > (x3 : Int)) = false := decide_eq_false (by omega)
    have d1' : decide ((x3 : Int) < (hl : Int)) = false := decide_eq_false (by omega)
    have d1n : decide (x3 < hl) = false := decide_eq_false hlt
    go_wp2
    exact ⟨⟨q + 1, y2, x3, by go_num, by omega, by omega, hid ⟨HS2.out.1.symm, HS2.out.2.symm⟩, HR1⟩, by simp [intOf]; omega⟩
end
end Go.Proofs.Qxb6500887aGreat
