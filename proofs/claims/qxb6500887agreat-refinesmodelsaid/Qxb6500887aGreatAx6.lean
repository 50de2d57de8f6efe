/- Usage, exactly (written by tools/mk_ax6.py). -/
import Derived.Test.Qxb6500887aGreatAx5
import Derived.Deep.DeepCutAuto
namespace Go.Proofs.Qxb6500887aGreat
open Go.RowKit
set_option linter.unusedSimpArgs false
set_option linter.unusedVariables false
def natV (x : Nat) : Value := .int .i64 (x : Int)
theorem natV_one (xs : List Nat) : ∀ u ∈ xs.map natV, u.oneCell' = true := by
  intro u hu
  obtain ⟨x, _, rfl⟩ := List.mem_map.1 hu
  rfl
theorem fb_cases {z : Nat} (hz : z ≤ 32) : (z = 32 ∧ fb0 z = true ∧ fb1 z = false ∧ fb2 z = false ∧ clV (z : Int) = 0) ∨ (z = 0 ∧ fb0 z = false ∧ fb1 z = false ∧ fb2 z = true ∧ clV (z : Int) = 2) ∨ (z ≠ 32 ∧ z ≠ 0 ∧ fb0 z = false ∧ fb1 z = true ∧ fb2 z = false ∧ clV (z : Int) = 1) := by
  by_cases h1 : z = 32
  · subst h1; exact .inl ⟨rfl, rfl, rfl, rfl, rfl⟩
  · by_cases h2 : z = 0
    · subst h2; exact .inr (.inl ⟨rfl, rfl, rfl, rfl, rfl⟩)
    · refine .inr (.inr ⟨h1, h2, ?_, ?_, ?_, ?_⟩)
      · unfold fb0; simpa using h1
      · unfold fb1; simp [h1, h2]
      · unfold fb2; simpa using h2
      · unfold clV; rw [if_neg (by omega), if_neg (by omega)]
section
variable {l : AL} {S : AS} {w w' w0 : World}
set_option maxRecDepth 100000 in
set_option maxHeartbeats 8000000 in
theorem usageX (h : AM l S w) : Calls Tryz.prog 237 #[.pointer (some ⟨l.a, 0, none⟩)] w fun e w' => e = .returned (.agg ((usL (abE S)).map natV).toArray) ∧ Hid (Below w.heap.size w w') := by
  have I0 := hid info_us
  obtain ⟨r, hr⟩ : ∃ r, w.heap.size = r := ⟨_, rfl⟩
  have H0 : Hid (OwV (AM l S) w [(r, 34, [.int .i64 0, .int .i64 0, .int .i64 0, .int .i64 0, .int .i64 0, .int .i64 0, .int .i64 0, .int .i64 0])] (w.alloc (.cells #[.int .i64 0, .int .i64 0, .int .i64 0, .int .i64 0, .int .i64 0, .int .i64 0, .int .i64 0, .int .i64 0] 34))) := hid ((OwV.start h AM.stays).new hr 34 [.int .i64 0, .int .i64 0, .int .i64 0, .int .i64 0, .int .i64 0, .int .i64 0, .int .i64 0, .int .i64 0])
  clear h
  go_enter Tryz.func237, Tryz.ntmps237
  go_upto_region 1 with fail
  (try simp only [hr])
  generalize hw1 : w.alloc _ = w1 at H0 ⊢
  clear hw1 hr
  obtain ⟨u, hu⟩ : ∃ u, w1.heap.size = u := ⟨_, rfl⟩
  have H1 : Hid (OwV (AM l S) w [(u, 34, [.int .i64 0, .int .i64 0, .int .i64 0, .int .i64 0, .int .i64 0, .int .i64 0, .int .i64 0, .int .i64 0]), (r, 34, [.int .i64 0, .int .i64 0, .int .i64 0, .int .i64 0, .int .i64 0, .int .i64 0, .int .i64 0, .int .i64 0])] (w1.alloc (.cells #[.int .i64 0, .int .i64 0, .int .i64 0, .int .i64 0, .int .i64 0, .int .i64 0, .int .i64 0, .int .i64 0] 34))) := hid (H0.out.new hu 34 [.int .i64 0, .int .i64 0, .int .i64 0, .int .i64 0, .int .i64 0, .int .i64 0, .int .i64 0, .int .i64 0])
  go_upto_region 2 with fail
  (try simp only [hu])
  generalize hw2 : w1.alloc _ = w2 at H1 ⊢
  clear hw2 hu H0
  go_upto_region 3 with fail
  go_loopw [4] (fun v wr => ∃ b x0 x1 x2 x3 : Nat, v = .int .i64 (b : Int) ∧ b ≤ 64 ∧ (x0 ≤ 2048 ∧ x1 ≤ 64 ∧ x2 ≤ 64 ∧ x3 ≤ 64) ∧ Hid (x0 = sumF (fun b => flE (abE S).T b 32) b ∧ x1 = cnt (fun b => fb0 (flE (abE S).T b 32)) b ∧ x2 = cnt (fun b => fb1 (flE (abE S).T b 32)) b ∧ x3 = cnt (fun b => fb2 (flE (abE S).T b 32)) b) ∧ Hid (OwV (AM l S) w [(u, 34, [.int .i64 (x0 : Int), .int .i64 (x1 : Int), .int .i64 (x2 : Int), .int .i64 (x3 : Int), .int .i64 0, .int .i64 0, .int .i64 0, .int .i64 0]), (r, 34, [.int .i64 0, .int .i64 0, .int .i64 0, .int .i64 0, .int .i64 0, .int .i64 0, .int .i64 0, .int .i64 0])] wr)) (fun v _ => 64 - (intOf v).toNat)
  case atStart => exact ⟨0, 0, 0, 0, 0, rfl, by omega, by omega, hid ⟨rfl, rfl, rfl, rfl⟩, H1⟩
  case round =>
  clear H1
  obtain ⟨b, x0, x1, x2, x3, rfl, hb, hxb, HX, HK⟩ := hrel
  by_cases hbn : b < 64
  rotate_left
  · as_aux_lemma =>
    have dq : decide ((b : Int) < 64) = false := decide_eq_false (by omega)
    have eb : b = 64 := by omega
    have HX2 := hid HX.out
    rw [eb] at HX2
    clear eb HX
    go_upto_region 14 with fail
    have k1 := HK.out.b.cells.2.1
    have HN := hid (HK.out.b.tc.nNz 0 16384 (by omega) (by omega))
    obtain ⟨y4, hy4⟩ : ∃ y, cnt (fun i => nzP 2 32 S.C (0 + i)) (16384 - 0) = y := ⟨_, rfl⟩
    rw [hy4] at HN
    have HY4 := hid hy4
    clear hy4
    go_wp2_with fail
    refine HN.out.mono ?_
    rintro e wa4 ⟨rfl, hb_⟩
    have HA4 := hid (HK.out.below hb_)
    clear HN hb_ HK k1
    have cx_ : wa4.cell? ⟨u, 4, none⟩ = some (.int .i64 0) := HA4.out.cell (k := 0) rfl 4
    have zx_ : wa4.frozen? ⟨u, 4, none⟩ = false := HA4.out.frozen (k := 0) rfl 4
    have HP4 : Hid (OwV (AM l S) w [(u, 34, [.int .i64 (x0 : Int), .int .i64 (x1 : Int), .int .i64 (x2 : Int), .int .i64 (x3 : Int), .int .i64 (y4 : Int), .int .i64 0, .int .i64 0, .int .i64 0]), (r, 34, [.int .i64 0, .int .i64 0, .int .i64 0, .int .i64 0, .int .i64 0, .int .i64 0, .int .i64 0, .int .i64 0])] (wa4.setCell ⟨u, 4, none⟩ (.int .i64 (y4 : Int)))) := hid (HA4.out.put (k := 0) rfl 4 (.int .i64 (y4 : Int)))
    go_upto_region 15 with fail
    generalize hz_ : World.setCell _ _ _ = wb4 at HP4 ⊢
    clear hz_ cx_ zx_ HA4
    have k1 := HP4.out.b.cells.2.1
    have HN := hid (HP4.out.b.tc.nEq 0 16384 3 (by omega) (by omega) (by decide))
    obtain ⟨y5, hy5⟩ : ∃ y, cnt (fun i => eqP 2 32 S.C 3 (0 + i)) (16384 - 0) = y := ⟨_, rfl⟩
    rw [hy5] at HN
    have HY5 := hid hy5
    clear hy5
    go_wp2_with fail
    refine HN.out.mono ?_
    rintro e wa5 ⟨rfl, hb_⟩
    have HA5 := hid (HP4.out.below hb_)
    clear HN hb_ HP4 k1
    have cx_ : wa5.cell? ⟨u, 5, none⟩ = some (.int .i64 0) := HA5.out.cell (k := 0) rfl 5
    have zx_ : wa5.frozen? ⟨u, 5, none⟩ = false := HA5.out.frozen (k := 0) rfl 5
    have HP5 : Hid (OwV (AM l S) w [(u, 34, [.int .i64 (x0 : Int), .int .i64 (x1 : Int), .int .i64 (x2 : Int), .int .i64 (x3 : Int), .int .i64 (y4 : Int), .int .i64 (y5 : Int), .int .i64 0, .int .i64 0]), (r, 34, [.int .i64 0, .int .i64 0, .int .i64 0, .int .i64 0, .int .i64 0, .int .i64 0, .int .i64 0, .int .i64 0])] (wa5.setCell ⟨u, 5, none⟩ (.int .i64 (y5 : Int)))) := hid (HA5.out.put (k := 0) rfl 5 (.int .i64 (y5 : Int)))
    go_upto_region 16 with fail
    generalize hz_ : World.setCell _ _ _ = wb5 at HP5 ⊢
    clear hz_ cx_ zx_ HA5
    have k1 := HP5.out.b.cells.2.2.1
    have HN := hid (HP5.out.b.tm.nNz 0 16384 (by omega) (by omega))
    obtain ⟨y6, hy6⟩ : ∃ y, cnt (fun i => nzP 1 64 S.M (0 + i)) (16384 - 0) = y := ⟨_, rfl⟩
    rw [hy6] at HN
    have HY6 := hid hy6
    clear hy6
    go_wp2_with fail
    refine HN.out.mono ?_
    rintro e wa6 ⟨rfl, hb_⟩
    have HA6 := hid (HP5.out.below hb_)
    clear HN hb_ HP5 k1
    have cx_ : wa6.cell? ⟨u, 6, none⟩ = some (.int .i64 0) := HA6.out.cell (k := 0) rfl 6
    have zx_ : wa6.frozen? ⟨u, 6, none⟩ = false := HA6.out.frozen (k := 0) rfl 6
    have HP6 : Hid (OwV (AM l S) w [(u, 34, [.int .i64 (x0 : Int), .int .i64 (x1 : Int), .int .i64 (x2 : Int), .int .i64 (x3 : Int), .int .i64 (y4 : Int), .int .i64 (y5 : Int), .int .i64 (y6 : Int), .int .i64 0]), (r, 34, [.int .i64 0, .int .i64 0, .int .i64 0, .int .i64 0, .int .i64 0, .int .i64 0, .int .i64 0, .int .i64 0])] (wa6.setCell ⟨u, 6, none⟩ (.int .i64 (y6 : Int)))) := hid (HA6.out.put (k := 0) rfl 6 (.int .i64 (y6 : Int)))
    go_upto_region 17 with fail
    generalize hz_ : World.setCell _ _ _ = wb6 at HP6 ⊢
    clear hz_ cx_ zx_ HA6
    have k1 := HP6.out.b.cells.2.2.2.1
    have HN := hid (HP6.out.b.tl.nNz 0 32768 (by omega) (by omega))
    obtain ⟨y7, hy7⟩ : ∃ y, cnt (fun i => nzP 1 64 S.L (0 + i)) (32768 - 0) = y := ⟨_, rfl⟩
    rw [hy7] at HN
    have HY7 := hid hy7
    clear hy7
    go_wp2_with fail
    refine HN.out.mono ?_
    rintro e wa7 ⟨rfl, hb_⟩
    have HA7 := hid (HP6.out.below hb_)
    clear HN hb_ HP6 k1
    have cx_ : wa7.cell? ⟨u, 7, none⟩ = some (.int .i64 0) := HA7.out.cell (k := 0) rfl 7
    have zx_ : wa7.frozen? ⟨u, 7, none⟩ = false := HA7.out.frozen (k := 0) rfl 7
    have HP7 : Hid (OwV (AM l S) w [(u, 34, [.int .i64 (x0 : Int), .int .i64 (x1 : Int), .int .i64 (x2 : Int), .int .i64 (x3 : Int), .int .i64 (y4 : Int), .int .i64 (y5 : Int), .int .i64 (y6 : Int), .int .i64 (y7 : Int)]), (r, 34, [.int .i64 0, .int .i64 0, .int .i64 0, .int .i64 0, .int .i64 0, .int .i64 0, .int .i64 0, .int .i64 0])] (wa7.setCell ⟨u, 7, none⟩ (.int .i64 (y7 : Int)))) := hid (HA7.out.put (k := 0) rfl 7 (.int .i64 (y7 : Int)))
    go_upto_region 18 with fail
    generalize hz_ : World.setCell _ _ _ = wb7 at HP7 ⊢
    clear hz_ cx_ zx_ HA7
    have HE : Hid ([.int .i64 (x0 : Int), .int .i64 (x1 : Int), .int .i64 (x2 : Int), .int .i64 (x3 : Int), .int .i64 (y4 : Int), .int .i64 (y5 : Int), .int .i64 (y6 : Int), .int .i64 (y7 : Int)] = (usL (abE S)).map natV) := hid (by
      obtain ⟨e0, e1, e2, e3⟩ := HX2.out
      have e4 := HY4.out
      have e5 := HY5.out
      have e6 := HY6.out
      have e7 := HY7.out
      simp only [Nat.zero_add, Nat.sub_zero] at e4 e5 e6 e7
      rw [e0, e1, e2, e3, ← e4, ← e5, ← e6, ← e7]
      rfl)
    clear HX2 HY4 HY5 HY6 HY7
    have Hx := hid (HP7.out.blk (k := 0) rfl)
    have Hy := hid (HP7.out.blk (k := 1) rfl)
    go_wp2_with (first | (refine wpList_load_blk rfl 34 _ rfl u rfl [.int .i64 (x0 : Int), .int .i64 (x1 : Int), .int .i64 (x2 : Int), .int .i64 (x3 : Int), .int .i64 (y4 : Int), .int .i64 (y5 : Int), .int .i64 (y6 : Int), .int .i64 (y7 : Int)] Hx.out _ Tryz.underlying34 rfl I0.out ?_) | (refine wpList_store_blk rfl 34 _ _ rfl r rfl [.int .i64 (x0 : Int), .int .i64 (x1 : Int), .int .i64 (x2 : Int), .int .i64 (x3 : Int), .int .i64 (y4 : Int), .int .i64 (y5 : Int), .int .i64 (y6 : Int), .int .i64 (y7 : Int)] rfl Hy.out rfl I0.out (by rw [HE.out]; exact natV_one _) ?_; intro w9 HB9 HU9))
    refine bodyPost_ret (results_blk (cs := [.int .i64 (x0 : Int), .int .i64 (x1 : Int), .int .i64 (x2 : Int), .int .i64 (x3 : Int), .int .i64 (y4 : Int), .int .i64 (y5 : Int), .int .i64 (y6 : Int), .int .i64 (y7 : Int)]) Tryz.results237 rfl agg_us HB9.out) rfl ?_
    exact ⟨by rw [HE.out], hid (HP7.out.out (k := 1) rfl HU9.out)⟩
  as_aux_lemma =>
  have dq : decide ((b : Int) < 64) = true := decide_eq_true (by omega)
  have HF := hid (freeLinesZ HK.out.b (b : Int))
  rw [flV_eq S hbn] at HF
  have hz : flE (abE S).T b 32 ≤ 32 := cnt_bound _ _
  have HXs : Hid (sumF (fun b => flE (abE S).T b 32) (b + 1) = sumF (fun b => flE (abE S).T b 32) b + flE (abE S).T b 32 ∧ cnt (fun b => fb0 (flE (abE S).T b 32)) (b + 1) = cnt (fun b => fb0 (flE (abE S).T b 32)) b + (fb0 (flE (abE S).T b 32)).toNat ∧ cnt (fun b => fb1 (flE (abE S).T b 32)) (b + 1) = cnt (fun b => fb1 (flE (abE S).T b 32)) b + (fb1 (flE (abE S).T b 32)).toNat ∧ cnt (fun b => fb2 (flE (abE S).T b 32)) (b + 1) = cnt (fun b => fb2 (flE (abE S).T b 32)) b + (fb2 (flE (abE S).T b 32)).toNat) := hid ⟨rfl, rfl, rfl, rfl⟩
  have hxc : x0 ≤ 32 * b ∧ x1 ≤ b ∧ x2 ≤ b ∧ x3 ≤ b := by
    obtain ⟨e0, e1, e2, e3⟩ := HX.out
    refine ⟨?_, ?_, ?_, ?_⟩
    · rw [e0]; exact sumF_le (fun i => cnt_bound _ _) b
    · rw [e1]; exact cnt_bound _ _
    · rw [e2]; exact cnt_bound _ _
    · rw [e3]; exact cnt_bound _ _
  obtain ⟨z, hz0⟩ : ∃ z, flE (abE S).T b 32 = z := ⟨_, rfl⟩
  rw [hz0] at HF hz HXs
  clear hz0
  have HCl := hid (fun wz => classOfZ (z : Int) wz)
  generalize blC (b : Int) = cc at *
  obtain ⟨y0, hy0⟩ : ∃ y, x0 + z = y := ⟨_, rfl⟩
  have ey0 : (x0 : Int) + (z : Int) = (y0 : Int) := by omega
  have hyb0 : y0 ≤ 2048 := by omega
  have HY0 := hid hy0
  clear hy0
  go_wp2_with fail
  refine HF.out.mono ?_
  rintro e w3 ⟨rfl, HB⟩
  have HR1 := hid (HK.out.below HB.out.1)
  clear HF HB HK
  have cx_ : w3.cell? ⟨u, 0, none⟩ = some (.int .i64 (x0 : Int)) := HR1.out.cell (k := 0) rfl 0
  have zx_ : w3.frozen? ⟨u, 0, none⟩ = false := HR1.out.frozen (k := 0) rfl 0
  have HR2 : Hid (OwV (AM l S) w [(u, 34, [.int .i64 (y0 : Int), .int .i64 (x1 : Int), .int .i64 (x2 : Int), .int .i64 (x3 : Int), .int .i64 0, .int .i64 0, .int .i64 0, .int .i64 0]), (r, 34, [.int .i64 0, .int .i64 0, .int .i64 0, .int .i64 0, .int .i64 0, .int .i64 0, .int .i64 0, .int .i64 0])] (w3.setCell ⟨u, 0, none⟩ (.int .i64 (y0 : Int)))) := hid (HR1.out.put (k := 0) rfl 0 (.int .i64 (y0 : Int)))
  go_upto_region 7 with fail
  generalize hz_ : World.setCell _ _ _ = w4 at HR2 ⊢
  clear hz_ cx_ zx_ HR1
  clear ey0
  (go_wp2_with fail; refine (HCl.out w4).mono ?_; rintro e_ w_ ⟨he_, hw_⟩; subst he_; have hs_ := hw_.symm; clear hw_; subst hs_)
  clear HCl
  rcases fb_cases hz with ⟨rfl, f0, f1, f2, fc⟩ | ⟨rfl, f0, f1, f2, fc⟩ | ⟨_, _, f0, f1, f2, fc⟩
  · as_aux_lemma =>
    rw [fc]
    rw [f0, f1, f2] at HXs
    obtain ⟨y1, hy1⟩ : ∃ y, x1 + 1 = y := ⟨_, rfl⟩
    have ey1 : (x1 : Int) + 1 = (y1 : Int) := by omega
    have hyb1 : y1 ≤ 64 := by omega
    have HYi := hid hy1
    clear hy1 f0 f1 f2 fc
    have cx_ : w4.cell? ⟨u, 1, none⟩ = some (.int .i64 (x1 : Int)) := HR2.out.cell (k := 0) rfl 1
    have zx_ : w4.frozen? ⟨u, 1, none⟩ = false := HR2.out.frozen (k := 0) rfl 1
    have HR3 : Hid (OwV (AM l S) w [(u, 34, [.int .i64 (y0 : Int), .int .i64 (y1 : Int), .int .i64 (x2 : Int), .int .i64 (x3 : Int), .int .i64 0, .int .i64 0, .int .i64 0, .int .i64 0]), (r, 34, [.int .i64 0, .int .i64 0, .int .i64 0, .int .i64 0, .int .i64 0, .int .i64 0, .int .i64 0, .int .i64 0])] (w4.setCell ⟨u, 1, none⟩ (.int .i64 (y1 : Int)))) := hid (HR2.out.put (k := 0) rfl 1 (.int .i64 (y1 : Int)))
    go_upto_region 4 with fail
    generalize hz_ : World.setCell _ _ _ = w5 at HR3 ⊢
    clear hz_ cx_ zx_ HR2
    clear ey1
    go_wp2
    exact ⟨⟨b + 1, y0, y1, x2, x3, by go_num, by omega, by omega, hid (by
      obtain ⟨e0, e1, e2, e3⟩ := HX.out
      obtain ⟨g0, g1, g2, g3⟩ := HXs.out
      have y1 := HY0.out
      have y2 := HYi.out
      rw [g0, g1, g2, g3, ← e0, ← e1, ← e2, ← e3]
      simp only [Bool.toNat_true, Bool.toNat_false]
      omega), HR3⟩, by simp [intOf]; omega⟩
  · as_aux_lemma =>
    rw [fc]
    rw [f0, f1, f2] at HXs
    obtain ⟨y3, hy3⟩ : ∃ y, x3 + 1 = y := ⟨_, rfl⟩
    have ey3 : (x3 : Int) + 1 = (y3 : Int) := by omega
    have hyb3 : y3 ≤ 64 := by omega
    have HYi := hid hy3
    clear hy3 f0 f1 f2 fc
    have cx_ : w4.cell? ⟨u, 3, none⟩ = some (.int .i64 (x3 : Int)) := HR2.out.cell (k := 0) rfl 3
    have zx_ : w4.frozen? ⟨u, 3, none⟩ = false := HR2.out.frozen (k := 0) rfl 3
    have HR3 : Hid (OwV (AM l S) w [(u, 34, [.int .i64 (y0 : Int), .int .i64 (x1 : Int), .int .i64 (x2 : Int), .int .i64 (y3 : Int), .int .i64 0, .int .i64 0, .int .i64 0, .int .i64 0]), (r, 34, [.int .i64 0, .int .i64 0, .int .i64 0, .int .i64 0, .int .i64 0, .int .i64 0, .int .i64 0, .int .i64 0])] (w4.setCell ⟨u, 3, none⟩ (.int .i64 (y3 : Int)))) := hid (HR2.out.put (k := 0) rfl 3 (.int .i64 (y3 : Int)))
    go_upto_region 4 with fail
    generalize hz_ : World.setCell _ _ _ = w5 at HR3 ⊢
    clear hz_ cx_ zx_ HR2
    clear ey3
    go_wp2
    exact ⟨⟨b + 1, y0, x1, x2, y3, by go_num, by omega, by omega, hid (by
      obtain ⟨e0, e1, e2, e3⟩ := HX.out
      obtain ⟨g0, g1, g2, g3⟩ := HXs.out
      have y1 := HY0.out
      have y2 := HYi.out
      rw [g0, g1, g2, g3, ← e0, ← e1, ← e2, ← e3]
      simp only [Bool.toNat_true, Bool.toNat_false]
      omega), HR3⟩, by simp [intOf]; omega⟩
  · as_aux_lemma =>
    rw [fc]
    rw [f0, f1, f2] at HXs
    obtain ⟨y2, hy2⟩ : ∃ y, x2 + 1 = y := ⟨_, rfl⟩
    have ey2 : (x2 : Int) + 1 = (y2 : Int) := by omega
    have hyb2 : y2 ≤ 64 := by omega
    have HYi := hid hy2
    clear hy2 f0 f1 f2 fc
    have cx_ : w4.cell? ⟨u, 2, none⟩ = some (.int .i64 (x2 : Int)) := HR2.out.cell (k := 0) rfl 2
    have zx_ : w4.frozen? ⟨u, 2, none⟩ = false := HR2.out.frozen (k := 0) rfl 2
    have HR3 : Hid (OwV (AM l S) w [(u, 34, [.int .i64 (y0 : Int), .int .i64 (x1 : Int), .int .i64 (y2 : Int), .int .i64 (x3 : Int), .int .i64 0, .int .i64 0, .int .i64 0, .int .i64 0]), (r, 34, [.int .i64 0, .int .i64 0, .int .i64 0, .int .i64 0, .int .i64 0, .int .i64 0, .int .i64 0, .int .i64 0])] (w4.setCell ⟨u, 2, none⟩ (.int .i64 (y2 : Int)))) := hid (HR2.out.put (k := 0) rfl 2 (.int .i64 (y2 : Int)))
    go_upto_region 4 with fail
    generalize hz_ : World.setCell _ _ _ = w5 at HR3 ⊢
    clear hz_ cx_ zx_ HR2
    clear ey2
    go_wp2
    exact ⟨⟨b + 1, y0, x1, y2, x3, by go_num, by omega, by omega, hid (by
      obtain ⟨e0, e1, e2, e3⟩ := HX.out
      obtain ⟨g0, g1, g2, g3⟩ := HXs.out
      have y1 := HY0.out
      have y2 := HYi.out
      rw [g0, g1, g2, g3, ← e0, ← e1, ← e2, ← e3]
      simp only [Bool.toNat_true, Bool.toNat_false]
      omega), HR3⟩, by simp [intOf]; omega⟩
end
end Go.Proofs.Qxb6500887aGreat
