/- The model's usage (written by tools/mk_aw2.py). -/
import Derived.Test.Qxb6500887aGreatAx6
import Derived.Test.Qxb6500887aGreatAw1
import Derived.Deep.DeepCutAuto
namespace Go.Proofs.Qxb6500887aGreat
open Go.RowKit
set_option linter.unusedSimpArgs false
set_option linter.unusedVariables false
theorem fbM_cases {z : Nat} (hz : z ≤ 32) : (z = 32 ∧ fb0 z = true ∧ fb1 z = false ∧ fb2 z = false ∧ clM z = 0) ∨ (z = 0 ∧ fb0 z = false ∧ fb1 z = false ∧ fb2 z = true ∧ clM z = 2) ∨ (z ≠ 32 ∧ z ≠ 0 ∧ fb0 z = false ∧ fb1 z = true ∧ fb2 z = false ∧ clM z = 1) := by
  rcases fb_cases hz with ⟨h, a, b, c, d⟩ | ⟨h, a, b, c, d⟩ | ⟨h, h', a, b, c, d⟩
  · subst h; exact .inl ⟨rfl, rfl, rfl, rfl, rfl⟩
  · subst h; exact .inr (.inl ⟨rfl, rfl, rfl, rfl, rfl⟩)
  · exact .inr (.inr ⟨h, h', a, b, c, by unfold clM; rw [if_neg h, if_neg h']⟩)
theorem beq_cast (a c : Nat) : (a == c) = (((a : Nat) : Int) == ((c : Nat) : Int)) := by
  rw [Bool.eq_iff_iff]; simp only [beq_iff_eq]; omega
theorem bne_cast (a c : Nat) : (!(a == c)) = (((a : Nat) : Int) != ((c : Nat) : Int)) := by
  show _ = !(((a : Nat) : Int) == ((c : Nat) : Int)); rw [beq_cast]
section
variable {l : ML} {E : ES} {w w' w0 : World}
set_option maxRecDepth 100000 in
set_option maxHeartbeats 8000000 in
theorem usageM (h : MM l E w) : Calls Tryz.prog 197 #[.pointer (some ⟨l.m, 0, none⟩)] w fun e w' => e = .returned (.agg ((usL E).map natV).toArray) ∧ Hid (Below w.heap.size w w') := by
  have I0 := hid info_us
  obtain ⟨r, hr⟩ : ∃ r, w.heap.size = r := ⟨_, rfl⟩
  have H0 : Hid (OwV (MM l E) w [(r, 34, [.int .i64 0, .int .i64 0, .int .i64 0, .int .i64 0, .int .i64 0, .int .i64 0, .int .i64 0, .int .i64 0])] (w.alloc (.cells #[.int .i64 0, .int .i64 0, .int .i64 0, .int .i64 0, .int .i64 0, .int .i64 0, .int .i64 0, .int .i64 0] 34))) := hid ((OwV.start h MM.stays).new hr 34 [.int .i64 0, .int .i64 0, .int .i64 0, .int .i64 0, .int .i64 0, .int .i64 0, .int .i64 0, .int .i64 0])
  clear h
  go_enter Tryz.func197, Tryz.ntmps197
  go_upto_region 1 with fail
  (try simp only [hr])
  generalize hw1 : w.alloc _ = w1 at H0 ⊢
  clear hw1 hr
  obtain ⟨u, hu⟩ : ∃ u, w1.heap.size = u := ⟨_, rfl⟩
  have H1 : Hid (OwV (MM l E) w [(u, 34, [.int .i64 0, .int .i64 0, .int .i64 0, .int .i64 0, .int .i64 0, .int .i64 0, .int .i64 0, .int .i64 0]), (r, 34, [.int .i64 0, .int .i64 0, .int .i64 0, .int .i64 0, .int .i64 0, .int .i64 0, .int .i64 0, .int .i64 0])] (w1.alloc (.cells #[.int .i64 0, .int .i64 0, .int .i64 0, .int .i64 0, .int .i64 0, .int .i64 0, .int .i64 0, .int .i64 0] 34))) := hid (H0.out.new hu 34 [.int .i64 0, .int .i64 0, .int .i64 0, .int .i64 0, .int .i64 0, .int .i64 0, .int .i64 0, .int .i64 0])
  go_upto_region 2 with fail
  (try simp only [hu])
  generalize hw2 : w1.alloc _ = w2 at H1 ⊢
  clear hw2 hu H0
  go_upto_region 3 with fail
  go_loopw [4] (fun v wr => ∃ b x0 x1 x2 x3 : Nat, v = .int .i64 (b : Int) ∧ b ≤ 64 ∧ (x0 ≤ 2048 ∧ x1 ≤ 64 ∧ x2 ≤ 64 ∧ x3 ≤ 64) ∧ Hid (x0 = sumF (fun b => flE E.T b 32) b ∧ x1 = cnt (fun b => fb0 (flE E.T b 32)) b ∧ x2 = cnt (fun b => fb1 (flE E.T b 32)) b ∧ x3 = cnt (fun b => fb2 (flE E.T b 32)) b) ∧ Hid (OwV (MM l E) w [(u, 34, [.int .i64 (x0 : Int), .int .i64 (x1 : Int), .int .i64 (x2 : Int), .int .i64 (x3 : Int), .int .i64 0, .int .i64 0, .int .i64 0, .int .i64 0]), (r, 34, [.int .i64 0, .int .i64 0, .int .i64 0, .int .i64 0, .int .i64 0, .int .i64 0, .int .i64 0, .int .i64 0])] wr)) (fun v _ => 64 - (intOf v).toNat)
  case atStart => exact ⟨0, 0, 0, 0, 0, rfl, by omega, by omega, hid ⟨rfl, rfl, rfl, rfl⟩, H1⟩
  case round =>
  clear H1
  obtain ⟨b, x0, x1, x2, x3, rfl, hb, hxb, HX, HK⟩ := hrel
  by_cases hbn : b < 64
  rotate_left
  · as_aux_lemma =>
    have dq : decide ((b : Int) < 64) = false := decide_eq_false (by omega)
    have eb : b = 64 := by omega
    have HX2 := hid HX.out
    rw [eb] at HX2
    clear eb HX
    go_upto_region 13 with fail
    go_loopw [5] (fun v wr => ∃ g x4 x5 x6 : Nat, v = .int .i64 (g : Int) ∧ g ≤ 16384 ∧ (x4 ≤ 16384 ∧ x5 ≤ 16384 ∧ x6 ≤ 16384) ∧ Hid (x4 = cnt (fun g => !(E.C g == 0)) g ∧ x5 = cnt (fun g => E.C g == 3) g ∧ x6 = cnt E.K g) ∧ Hid (OwV (MM l E) w [(u, 34, [.int .i64 (x0 : Int), .int .i64 (x1 : Int), .int .i64 (x2 : Int), .int .i64 (x3 : Int), .int .i64 (x4 : Int), .int .i64 (x5 : Int), .int .i64 (x6 : Int), .int .i64 0]), (r, 34, [.int .i64 0, .int .i64 0, .int .i64 0, .int .i64 0, .int .i64 0, .int .i64 0, .int .i64 0, .int .i64 0])] wr)) (fun v _ => 16384 - (intOf v).toNat)
    case atStart => exact ⟨0, 0, 0, 0, rfl, by omega, by omega, hid ⟨rfl, rfl, rfl⟩, HK⟩
    case round =>
    clear HK
    obtain ⟨g, x4, x5, x6, rfl, hg, hxg, HXg, HK⟩ := hrel
    by_cases hgn : g < 16384
    rotate_left
    · as_aux_lemma =>
      have dg : decide ((g : Int) < 16384) = false := decide_eq_false (by omega)
      have eg : g = 16384 := by omega
      have HX3 := hid HXg.out
      rw [eg] at HX3
      clear eg HXg
      have c3 := HK.out.b.cells.2.2.2.1
      go_upto_region 22 with fail
      clear c3
      go_loopw [83, 7] (fun v _ wr => ∃ i x7 : Nat, v = .int .i64 (i : Int) ∧ i ≤ 32768 ∧ x7 ≤ 32768 ∧ Hid (x7 = cnt E.G i) ∧ Hid (OwV (MM l E) w [(u, 34, [.int .i64 (x0 : Int), .int .i64 (x1 : Int), .int .i64 (x2 : Int), .int .i64 (x3 : Int), .int .i64 (x4 : Int), .int .i64 (x5 : Int), .int .i64 (x6 : Int), .int .i64 (x7 : Int)]), (r, 34, [.int .i64 0, .int .i64 0, .int .i64 0, .int .i64 0, .int .i64 0, .int .i64 0, .int .i64 0, .int .i64 0])] wr)) (fun v _ _ => 32768 - (intOf v).toNat)
      case atStart => exact ⟨0, 0, rfl, by omega, by omega, hid rfl, HK⟩
      case round =>
      clear HK
      obtain ⟨i, x7, rfl, hi, hx7, HXi, HK⟩ := hrel
      by_cases hin : i < 32768
      rotate_left
      · as_aux_lemma =>
        have di : decide ((i : Int) < 32768) = false := decide_eq_false (by omega)
        have HE : Hid ([.int .i64 (x0 : Int), .int .i64 (x1 : Int), .int .i64 (x2 : Int), .int .i64 (x3 : Int), .int .i64 (x4 : Int), .int .i64 (x5 : Int), .int .i64 (x6 : Int), .int .i64 (x7 : Int)] = (usL E).map natV) := hid (by
          obtain ⟨e0, e1, e2, e3⟩ := HX2.out
          obtain ⟨e4, e5, e6⟩ := HX3.out
          have e7 := HXi.out
          rw [show i = 32768 by omega] at e7
          rw [e0, e1, e2, e3, e4, e5, e6, e7]
          rfl)
        clear HX2 HX3 HXi
        have Hx := hid (HK.out.blk (k := 0) rfl)
        have Hy := hid (HK.out.blk (k := 1) rfl)
        go_wp2_with (first | (refine wpList_load_blk rfl 34 _ rfl u rfl [.int .i64 (x0 : Int), .int .i64 (x1 : Int), .int .i64 (x2 : Int), .int .i64 (x3 : Int), .int .i64 (x4 : Int), .int .i64 (x5 : Int), .int .i64 (x6 : Int), .int .i64 (x7 : Int)] Hx.out _ Tryz.underlying34 rfl I0.out ?_) | (refine wpList_store_blk rfl 34 _ _ rfl r rfl [.int .i64 (x0 : Int), .int .i64 (x1 : Int), .int .i64 (x2 : Int), .int .i64 (x3 : Int), .int .i64 (x4 : Int), .int .i64 (x5 : Int), .int .i64 (x6 : Int), .int .i64 (x7 : Int)] rfl Hy.out rfl I0.out (by rw [HE.out]; exact natV_one _) ?_; intro w9 HB9 HU9))
        refine bodyPost_ret (results_blk (cs := [.int .i64 (x0 : Int), .int .i64 (x1 : Int), .int .i64 (x2 : Int), .int .i64 (x3 : Int), .int .i64 (x4 : Int), .int .i64 (x5 : Int), .int .i64 (x6 : Int), .int .i64 (x7 : Int)]) Tryz.results197 rfl agg_us HB9.out) rfl ?_
        exact ⟨by rw [HE.out], hid (HK.out.out (k := 1) rfl HU9.out)⟩
      as_aux_lemma =>
      have di : decide ((i : Int) < 32768) = true := decide_eq_true (by omega)
      have cg := HK.out.b.log hin
      have HXs : Hid (cnt E.G (i + 1) = cnt E.G i + (E.G i).toNat) := hid rfl
      obtain ⟨bl, hbl⟩ : ∃ bl, E.G i = bl := ⟨_, rfl⟩
      rw [hbl] at cg HXs
      clear hbl
      cases bl with
      | true =>
        have cx_ : wr.cell? ⟨u, 7, none⟩ = some (.int .i64 (x7 : Int)) := HK.out.cell (k := 0) rfl 7
        have zx_ : wr.frozen? ⟨u, 7, none⟩ = false := HK.out.frozen (k := 0) rfl 7
        obtain ⟨y7, hy_⟩ : ∃ y, x7 + 1 = y := ⟨_, rfl⟩
        have ey_ : (x7 : Int) + 1 = (y7 : Int) := by omega
        have hyb_ : y7 ≤ 32768 + 1 := by omega
        have HYy7 : Hid (y7 = x7 + (true).toNat) := hid hy_.symm
        have HQ : Hid (OwV (MM l E) w [(u, 34, [.int .i64 (x0 : Int), .int .i64 (x1 : Int), .int .i64 (x2 : Int), .int .i64 (x3 : Int), .int .i64 (x4 : Int), .int .i64 (x5 : Int), .int .i64 (x6 : Int), .int .i64 (y7 : Int)]), (r, 34, [.int .i64 0, .int .i64 0, .int .i64 0, .int .i64 0, .int .i64 0, .int .i64 0, .int .i64 0, .int .i64 0])] (wr.setCell ⟨u, 7, none⟩ (.int .i64 (y7 : Int)))) := hid (HK.out.put (k := 0) rfl 7 (.int .i64 (y7 : Int)))
        clear hy_ HK
        have hyF : y7 ≤ 32768 ∧ Hid (y7 = cnt E.G (i + 1)) := by
          have e1 := HYy7.out
          have e2 := HXs.out
          have e3 := HXi.out
          have := cnt_bound E.G (i + 1)
          have e4 : y7 = cnt E.G (i + 1) := by omega
          exact ⟨by omega, hid e4⟩
        clear HYy7 HXs HXi
        go_wp2
        exact ⟨⟨i + 1, y7, by go_num, by omega, hyF.1, hyF.2, HQ⟩, by simp [intOf]; omega⟩
      | false =>
        obtain ⟨y7, hy_⟩ : ∃ y, y = x7 := ⟨_, rfl⟩
        subst hy_
        have HYy7 : Hid (y7 = y7 + (false).toNat) := hid rfl
        have HQ := HK
        clear HK
        have hyF : y7 ≤ 32768 ∧ Hid (y7 = cnt E.G (i + 1)) := by
          have e1 := HYy7.out
          have e2 := HXs.out
          have e3 := HXi.out
          have := cnt_bound E.G (i + 1)
          have e4 : y7 = cnt E.G (i + 1) := by omega
          exact ⟨by omega, hid e4⟩
        clear HYy7 HXs HXi
        go_wp2
        exact ⟨⟨i + 1, y7, by go_num, by omega, hyF.1, hyF.2, HQ⟩, by simp [intOf]; omega⟩
    as_aux_lemma =>
    have dg : decide ((g : Int) < 16384) = true := decide_eq_true (by omega)
    have c1 := HK.out.b.cells.2.1
    have cc := HK.out.b.count hgn
    have HXs : Hid (cnt (fun g => !(E.C g == 0)) (g + 1) = cnt (fun g => !(E.C g == 0)) g + (!(E.C g == 0)).toNat ∧ cnt (fun g => E.C g == 3) (g + 1) = cnt (fun g => E.C g == 3) g + (E.C g == 3).toNat ∧ cnt E.K (g + 1) = cnt E.K g + (E.K g).toNat) := hid ⟨rfl, rfl, rfl⟩
    have hcb : x4 ≤ g ∧ x5 ≤ g ∧ x6 ≤ g := by
      obtain ⟨e4, e5, e6⟩ := HXg.out
      rw [e4, e5, e6]
      exact ⟨cnt_bound _ _, cnt_bound _ _, cnt_bound _ _⟩
    obtain ⟨cv, hcv⟩ : ∃ cv, E.C g = cv := ⟨_, rfl⟩
    rw [hcv] at cc HXs
    have HCv := hid hcv
    clear hcv
    obtain ⟨b1, hb1⟩ : ∃ b1 : Bool, ((cv : Int) != 0) = b1 := ⟨_, rfl⟩
    obtain ⟨b2, hb2⟩ : ∃ b2 : Bool, ((cv : Int) == 3) = b2 := ⟨_, rfl⟩
    have HB1 : Hid ((!(cv == 0)) = b1) := hid (by rw [← hb1]; exact bne_cast cv 0)
    have HB2 : Hid ((cv == 3) = b2) := hid (by rw [← hb2]; exact beq_cast cv 3)
    go_upto_if 50 with fail
    go_cut [] from 51 to 54 (fun wd => ∃ y4 : Nat, y4 ≤ 16384 + 1 ∧ Hid (y4 = x4 + (b1).toNat) ∧ Hid (OwV (MM l E) w [(u, 34, [.int .i64 (x0 : Int), .int .i64 (x1 : Int), .int .i64 (x2 : Int), .int .i64 (x3 : Int), .int .i64 (y4 : Int), .int .i64 (x5 : Int), .int .i64 (x6 : Int), .int .i64 0]), (r, 34, [.int .i64 0, .int .i64 0, .int .i64 0, .int .i64 0, .int .i64 0, .int .i64 0, .int .i64 0, .int .i64 0])] wd))
    case first =>
      cases b1 with
      | true =>
        have cx_ : wr.cell? ⟨u, 4, none⟩ = some (.int .i64 (x4 : Int)) := HK.out.cell (k := 0) rfl 4
        have zx_ : wr.frozen? ⟨u, 4, none⟩ = false := HK.out.frozen (k := 0) rfl 4
        obtain ⟨y4, hy_⟩ : ∃ y, x4 + 1 = y := ⟨_, rfl⟩
        have ey_ : (x4 : Int) + 1 = (y4 : Int) := by omega
        have hyb_ : y4 ≤ 16384 + 1 := by omega
        have HY_ := hid hy_
        have HZ_ : Hid (OwV (MM l E) w [(u, 34, [.int .i64 (x0 : Int), .int .i64 (x1 : Int), .int .i64 (x2 : Int), .int .i64 (x3 : Int), .int .i64 (y4 : Int), .int .i64 (x5 : Int), .int .i64 (x6 : Int), .int .i64 0]), (r, 34, [.int .i64 0, .int .i64 0, .int .i64 0, .int .i64 0, .int .i64 0, .int .i64 0, .int .i64 0, .int .i64 0])] (wr.setCell ⟨u, 4, none⟩ (.int .i64 (y4 : Int)))) := hid (HK.out.put (k := 0) rfl 4 (.int .i64 (y4 : Int)))
        clear hy_
        go_wp2
        go_meet
        case rel => exact ⟨y4, hyb_, hid HY_.out.symm, HZ_⟩
      | false =>
        go_wp2
        go_meet
        case rel => exact ⟨x4, by omega, hid rfl, HK⟩
    case rest =>
    obtain ⟨wd, hwc_⟩ : ∃ x, x = wc := ⟨_, rfl⟩
    subst hwc_
    obtain ⟨y4, hb_y4, HYy4, HQ4⟩ := hcut
    clear HK
    clear c1 cc
    have c1 := HQ4.out.b.cells.2.1
    have cc := HQ4.out.b.count hgn
    rw [HCv.out] at cc
    go_upto_if 62 with fail
    go_cut [] from 63 to 66 (fun we => ∃ y5 : Nat, y5 ≤ 16384 + 1 ∧ Hid (y5 = x5 + (b2).toNat) ∧ Hid (OwV (MM l E) w [(u, 34, [.int .i64 (x0 : Int), .int .i64 (x1 : Int), .int .i64 (x2 : Int), .int .i64 (x3 : Int), .int .i64 (y4 : Int), .int .i64 (y5 : Int), .int .i64 (x6 : Int), .int .i64 0]), (r, 34, [.int .i64 0, .int .i64 0, .int .i64 0, .int .i64 0, .int .i64 0, .int .i64 0, .int .i64 0, .int .i64 0])] we))
    case first =>
      cases b2 with
      | true =>
        have cx_ : wd.cell? ⟨u, 5, none⟩ = some (.int .i64 (x5 : Int)) := HQ4.out.cell (k := 0) rfl 5
        have zx_ : wd.frozen? ⟨u, 5, none⟩ = false := HQ4.out.frozen (k := 0) rfl 5
        obtain ⟨y5, hy_⟩ : ∃ y, x5 + 1 = y := ⟨_, rfl⟩
        have ey_ : (x5 : Int) + 1 = (y5 : Int) := by omega
        have hyb_ : y5 ≤ 16384 + 1 := by omega
        have HY_ := hid hy_
        have HZ_ : Hid (OwV (MM l E) w [(u, 34, [.int .i64 (x0 : Int), .int .i64 (x1 : Int), .int .i64 (x2 : Int), .int .i64 (x3 : Int), .int .i64 (y4 : Int), .int .i64 (y5 : Int), .int .i64 (x6 : Int), .int .i64 0]), (r, 34, [.int .i64 0, .int .i64 0, .int .i64 0, .int .i64 0, .int .i64 0, .int .i64 0, .int .i64 0, .int .i64 0])] (wd.setCell ⟨u, 5, none⟩ (.int .i64 (y5 : Int)))) := hid (HQ4.out.put (k := 0) rfl 5 (.int .i64 (y5 : Int)))
        clear hy_
        go_wp2
        go_meet
        case rel => exact ⟨y5, hyb_, hid HY_.out.symm, HZ_⟩
      | false =>
        go_wp2
        go_meet
        case rel => exact ⟨x5, by omega, hid rfl, HQ4⟩
    case rest =>
    obtain ⟨we, hwc_⟩ : ∃ x, x = wc := ⟨_, rfl⟩
    subst hwc_
    obtain ⟨y5, hb_y5, HYy5, HQ5⟩ := hcut
    clear HQ4
    clear c1 cc
    have c2 := HQ5.out.b.cells.2.2.1
    have ck := HQ5.out.b.mark hgn
    obtain ⟨b3, hb3⟩ : ∃ b3, E.K g = b3 := ⟨_, rfl⟩
    rw [hb3] at ck HXs
    clear hb3
    cases b3 with
    | true =>
      have cx_ : we.cell? ⟨u, 6, none⟩ = some (.int .i64 (x6 : Int)) := HQ5.out.cell (k := 0) rfl 6
      have zx_ : we.frozen? ⟨u, 6, none⟩ = false := HQ5.out.frozen (k := 0) rfl 6
      obtain ⟨y6, hy_⟩ : ∃ y, x6 + 1 = y := ⟨_, rfl⟩
      have ey_ : (x6 : Int) + 1 = (y6 : Int) := by omega
      have hyb_ : y6 ≤ 16384 + 1 := by omega
      have HYy6 : Hid (y6 = x6 + (true).toNat) := hid hy_.symm
      have HQ6 : Hid (OwV (MM l E) w [(u, 34, [.int .i64 (x0 : Int), .int .i64 (x1 : Int), .int .i64 (x2 : Int), .int .i64 (x3 : Int), .int .i64 (y4 : Int), .int .i64 (y5 : Int), .int .i64 (y6 : Int), .int .i64 0]), (r, 34, [.int .i64 0, .int .i64 0, .int .i64 0, .int .i64 0, .int .i64 0, .int .i64 0, .int .i64 0, .int .i64 0])] (we.setCell ⟨u, 6, none⟩ (.int .i64 (y6 : Int)))) := hid (HQ5.out.put (k := 0) rfl 6 (.int .i64 (y6 : Int)))
      clear hy_ HQ5
      have HN : Hid (y4 = cnt (fun g => !(E.C g == 0)) (g + 1) ∧ y5 = cnt (fun g => E.C g == 3) (g + 1) ∧ y6 = cnt E.K (g + 1)) := hid (by
        obtain ⟨e4, e5, e6⟩ := HXg.out
        obtain ⟨g4, g5, g6⟩ := HXs.out
        rw [HB1.out] at g4
        rw [HB2.out] at g5
        rw [g4, g5, g6, ← e4, ← e5, ← e6]
        exact ⟨HYy4.out, HYy5.out, HYy6.out⟩)
      have hyb : y4 ≤ 16384 ∧ y5 ≤ 16384 ∧ y6 ≤ 16384 := by
        obtain ⟨e4, e5, e6⟩ := HN.out
        have h4 := cnt_bound (fun g => !(E.C g == 0)) (g + 1)
        have h5 := cnt_bound (fun g => E.C g == 3) (g + 1)
        have h6 := cnt_bound E.K (g + 1)
        omega
      clear HYy4 HYy5 HYy6 HXs HXg HB1 HB2 hb1 hb2
      go_wp2
      exact ⟨⟨g + 1, y4, y5, y6, by go_num, by omega, hyb, HN, HQ6⟩, by simp [intOf]; omega⟩
    | false =>
      obtain ⟨y6, hy_⟩ : ∃ y, y = x6 := ⟨_, rfl⟩
      subst hy_
      have HYy6 : Hid (y6 = y6 + (false).toNat) := hid rfl
      have HQ6 := HQ5
      clear HQ5
      have HN : Hid (y4 = cnt (fun g => !(E.C g == 0)) (g + 1) ∧ y5 = cnt (fun g => E.C g == 3) (g + 1) ∧ y6 = cnt E.K (g + 1)) := hid (by
        obtain ⟨e4, e5, e6⟩ := HXg.out
        obtain ⟨g4, g5, g6⟩ := HXs.out
        rw [HB1.out] at g4
        rw [HB2.out] at g5
        rw [g4, g5, g6, ← e4, ← e5, ← e6]
        exact ⟨HYy4.out, HYy5.out, HYy6.out⟩)
      have hyb : y4 ≤ 16384 ∧ y5 ≤ 16384 ∧ y6 ≤ 16384 := by
        obtain ⟨e4, e5, e6⟩ := HN.out
        have h4 := cnt_bound (fun g => !(E.C g == 0)) (g + 1)
        have h5 := cnt_bound (fun g => E.C g == 3) (g + 1)
        have h6 := cnt_bound E.K (g + 1)
        omega
      clear HYy4 HYy5 HYy6 HXs HXg HB1 HB2 hb1 hb2
      go_wp2
      exact ⟨⟨g + 1, y4, y5, y6, by go_num, by omega, hyb, HN, HQ6⟩, by simp [intOf]; omega⟩
  as_aux_lemma =>
  have dq : decide ((b : Int) < 64) = true := decide_eq_true (by omega)
  have hz : flE E.T b 32 ≤ 32 := cnt_bound _ _
  have HXs : Hid (sumF (fun b => flE E.T b 32) (b + 1) = sumF (fun b => flE E.T b 32) b + flE E.T b 32 ∧ cnt (fun b => fb0 (flE E.T b 32)) (b + 1) = cnt (fun b => fb0 (flE E.T b 32)) b + (fb0 (flE E.T b 32)).toNat ∧ cnt (fun b => fb1 (flE E.T b 32)) (b + 1) = cnt (fun b => fb1 (flE E.T b 32)) b + (fb1 (flE E.T b 32)).toNat ∧ cnt (fun b => fb2 (flE E.T b 32)) (b + 1) = cnt (fun b => fb2 (flE E.T b 32)) b + (fb2 (flE E.T b 32)).toNat) := hid ⟨rfl, rfl, rfl, rfl⟩
  have hxc : x0 ≤ 32 * b ∧ x1 ≤ b ∧ x2 ≤ b ∧ x3 ≤ b := by
    obtain ⟨e0, e1, e2, e3⟩ := HX.out
    refine ⟨?_, ?_, ?_, ?_⟩
    · rw [e0]; exact sumF_le (fun i => cnt_bound _ _) b
    · rw [e1]; exact cnt_bound _ _
    · rw [e2]; exact cnt_bound _ _
    · rw [e3]; exact cnt_bound _ _
  have HF : Hid (∀ wz, MM l E wz → Calls Tryz.prog 116 #[.pointer (some ⟨l.m, 0, none⟩), .int .i64 (b : Int)] wz fun e w' => e = .returned (.int .i64 ((flE E.T b 32 : Nat) : Int)) ∧ w' = wz) := hid (fun wz hz => flsM hz hbn)
  obtain ⟨z, hz0⟩ : ∃ z, flE E.T b 32 = z := ⟨_, rfl⟩
  rw [hz0] at HF hz HXs
  clear hz0
  have HCl := hid (fun wz => claM z wz)
  obtain ⟨y0, hy0⟩ : ∃ y, x0 + z = y := ⟨_, rfl⟩
  have ey0 : (x0 : Int) + (z : Int) = (y0 : Int) := by omega
  have hyb0 : y0 ≤ 2048 := by omega
  have HY0 := hid hy0
  clear hy0
  go_upto_region 5 with fail
  obtain ⟨X', W, HTT, H0, hne, HClo⟩ := class_below wr
  have y1 : ∀ v, (W v).cell? ⟨u, 0, none⟩ = some (.int .i64 (x0 : Int)) := fun v => (HK.out.below (HTT.out v)).cell (k := 0) rfl 0
  have HFc := hid (fun v => HF.out (W v) (HK.out.below (HTT.out v)).b)
  refine wp_region_class_last W rfl (by kernel_rfl) (by kernel_rfl) (by kernel_rfl) H0.out ?_
  dsimp only [List.dropLast, List.getLast]
  repeat (go_big_quiet_step (with_reducible exact Calls.class_same (HFc.out _)))
  refine wpQuiet_nil ?_
  intro v
  have HR1 := hid (HK.out.below (HTT.out v))
  generalize W v = w3 at HR1 ⊢
  clear y1 H0 HTT HClo hne HK HFc
  have cx_ : w3.cell? ⟨u, 0, none⟩ = some (.int .i64 (x0 : Int)) := HR1.out.cell (k := 0) rfl 0
  have zx_ : w3.frozen? ⟨u, 0, none⟩ = false := HR1.out.frozen (k := 0) rfl 0
  have HR2 : Hid (OwV (MM l E) w [(u, 34, [.int .i64 (y0 : Int), .int .i64 (x1 : Int), .int .i64 (x2 : Int), .int .i64 (x3 : Int), .int .i64 0, .int .i64 0, .int .i64 0, .int .i64 0]), (r, 34, [.int .i64 0, .int .i64 0, .int .i64 0, .int .i64 0, .int .i64 0, .int .i64 0, .int .i64 0, .int .i64 0])] (w3.setCell ⟨u, 0, none⟩ (.int .i64 (y0 : Int)))) := hid (HR1.out.put (k := 0) rfl 0 (.int .i64 (y0 : Int)))
  go_upto_region 6 with fail
  generalize hz_ : World.setCell _ _ _ = w4 at HR2 ⊢
  clear hz_ cx_ zx_ HR1
  clear ey0
  (go_wp2_with fail; refine (HF.out w4 HR2.out.b).mono ?_; rintro e_ w_ ⟨he_, hw_⟩; subst he_; have hs_ := hw_.symm; clear hw_; subst hs_)
  (go_wp2_with fail; refine (HCl.out w4).mono ?_; rintro e_ w_ ⟨he_, hw_⟩; subst he_; have hs_ := hw_.symm; clear hw_; subst hs_)
  clear HCl HF
  rcases fbM_cases hz with ⟨rfl, f0, f1, f2, fc⟩ | ⟨rfl, f0, f1, f2, fc⟩ | ⟨_, _, f0, f1, f2, fc⟩
  · as_aux_lemma =>
    rw [fc]
    rw [f0, f1, f2] at HXs
    obtain ⟨y1, hy1⟩ : ∃ y, x1 + 1 = y := ⟨_, rfl⟩
    have ey1 : (x1 : Int) + 1 = (y1 : Int) := by omega
    have hyb1 : y1 ≤ 64 := by omega
    have HYi := hid hy1
    clear hy1 f0 f1 f2 fc
    have cx_ : w4.cell? ⟨u, 1, none⟩ = some (.int .i64 (x1 : Int)) := HR2.out.cell (k := 0) rfl 1
    have zx_ : w4.frozen? ⟨u, 1, none⟩ = false := HR2.out.frozen (k := 0) rfl 1
    have HR3 : Hid (OwV (MM l E) w [(u, 34, [.int .i64 (y0 : Int), .int .i64 (y1 : Int), .int .i64 (x2 : Int), .int .i64 (x3 : Int), .int .i64 0, .int .i64 0, .int .i64 0, .int .i64 0]), (r, 34, [.int .i64 0, .int .i64 0, .int .i64 0, .int .i64 0, .int .i64 0, .int .i64 0, .int .i64 0, .int .i64 0])] (w4.setCell ⟨u, 1, none⟩ (.int .i64 (y1 : Int)))) := hid (HR2.out.put (k := 0) rfl 1 (.int .i64 (y1 : Int)))
    go_upto_region 4 with fail
    generalize hz_ : World.setCell _ _ _ = w5 at HR3 ⊢
    clear hz_ cx_ zx_ HR2
    clear ey1
    go_wp2
    exact ⟨⟨b + 1, y0, y1, x2, x3, by go_num, by omega, by omega, hid (by
      obtain ⟨e0, e1, e2, e3⟩ := HX.out
      obtain ⟨g0, g1, g2, g3⟩ := HXs.out
      have y1 := HY0.out
      have y2 := HYi.out
      rw [g0, g1, g2, g3, ← e0, ← e1, ← e2, ← e3]
      simp only [Bool.toNat_true, Bool.toNat_false]
      omega), HR3⟩, by simp [intOf]; omega⟩
  · as_aux_lemma =>
    rw [fc]
    rw [f0, f1, f2] at HXs
    obtain ⟨y3, hy3⟩ : ∃ y, x3 + 1 = y := ⟨_, rfl⟩
    have ey3 : (x3 : Int) + 1 = (y3 : Int) := by omega
    have hyb3 : y3 ≤ 64 := by omega
    have HYi := hid hy3
    clear hy3 f0 f1 f2 fc
    have cx_ : w4.cell? ⟨u, 3, none⟩ = some (.int .i64 (x3 : Int)) := HR2.out.cell (k := 0) rfl 3
    have zx_ : w4.frozen? ⟨u, 3, none⟩ = false := HR2.out.frozen (k := 0) rfl 3
    have HR3 : Hid (OwV (MM l E) w [(u, 34, [.int .i64 (y0 : Int), .int .i64 (x1 : Int), .int .i64 (x2 : Int), .int .i64 (y3 : Int), .int .i64 0, .int .i64 0, .int .i64 0, .int .i64 0]), (r, 34, [.int .i64 0, .int .i64 0, .int .i64 0, .int .i64 0, .int .i64 0, .int .i64 0, .int .i64 0, .int .i64 0])] (w4.setCell ⟨u, 3, none⟩ (.int .i64 (y3 : Int)))) := hid (HR2.out.put (k := 0) rfl 3 (.int .i64 (y3 : Int)))
    go_upto_region 4 with fail
    generalize hz_ : World.setCell _ _ _ = w5 at HR3 ⊢
    clear hz_ cx_ zx_ HR2
    clear ey3
    go_wp2
    exact ⟨⟨b + 1, y0, x1, x2, y3, by go_num, by omega, by omega, hid (by
      obtain ⟨e0, e1, e2, e3⟩ := HX.out
      obtain ⟨g0, g1, g2, g3⟩ := HXs.out
      have y1 := HY0.out
      have y2 := HYi.out
      rw [g0, g1, g2, g3, ← e0, ← e1, ← e2, ← e3]
      simp only [Bool.toNat_true, Bool.toNat_false]
      omega), HR3⟩, by simp [intOf]; omega⟩
  · as_aux_lemma =>
    rw [fc]
    rw [f0, f1, f2] at HXs
    obtain ⟨y2, hy2⟩ : ∃ y, x2 + 1 = y := ⟨_, rfl⟩
    have ey2 : (x2 : Int) + 1 = (y2 : Int) := by omega
    have hyb2 : y2 ≤ 64 := by omega
    have HYi := hid hy2
    clear hy2 f0 f1 f2 fc
    have cx_ : w4.cell? ⟨u, 2, none⟩ = some (.int .i64 (x2 : Int)) := HR2.out.cell (k := 0) rfl 2
    have zx_ : w4.frozen? ⟨u, 2, none⟩ = false := HR2.out.frozen (k := 0) rfl 2
    have HR3 : Hid (OwV (MM l E) w [(u, 34, [.int .i64 (y0 : Int), .int .i64 (x1 : Int), .int .i64 (y2 : Int), .int .i64 (x3 : Int), .int .i64 0, .int .i64 0, .int .i64 0, .int .i64 0]), (r, 34, [.int .i64 0, .int .i64 0, .int .i64 0, .int .i64 0, .int .i64 0, .int .i64 0, .int .i64 0, .int .i64 0])] (w4.setCell ⟨u, 2, none⟩ (.int .i64 (y2 : Int)))) := hid (HR2.out.put (k := 0) rfl 2 (.int .i64 (y2 : Int)))
    go_upto_region 4 with fail
    generalize hz_ : World.setCell _ _ _ = w5 at HR3 ⊢
    clear hz_ cx_ zx_ HR2
    clear ey2
    go_wp2
    exact ⟨⟨b + 1, y0, x1, y2, x3, by go_num, by omega, by omega, hid (by
      obtain ⟨e0, e1, e2, e3⟩ := HX.out
      obtain ⟨g0, g1, g2, g3⟩ := HXs.out
      have y1 := HY0.out
      have y2 := HYi.out
      rw [g0, g1, g2, g3, ← e0, ← e1, ← e2, ← e3]
      simp only [Bool.toNat_true, Bool.toNat_false]
      omega), HR3⟩, by simp [intOf]; omega⟩
end
end Go.Proofs.Qxb6500887aGreat
