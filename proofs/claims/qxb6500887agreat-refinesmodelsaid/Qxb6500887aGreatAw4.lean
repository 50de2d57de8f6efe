/- The model's census (written by tools/mk_aw4.py). -/
import Derived.Test.Qxb6500887aGreatAw3
import Derived.Deep.DeepCutAuto
namespace Go.Proofs.Qxb6500887aGreat
open Go.RowKit
set_option linter.unusedSimpArgs false
set_option linter.unusedVariables false
structure CeT where
  ob : Nat
  wd : Nat
  fl : Nat
  lk : Nat
/-- A field that holds a reference other than Nil. -/
noncomputable def lkB (x : Nat) : Bool := !(x == 0) && decide (rfOk (x : Int))
noncomputable def lnF (W : Nat → Nat) (k : Nat) : Nat → Nat := cnt (fun i => lkB (W (k + i)))
noncomputable def ceStep (E : ES) (g : Nat) (s : CeT) : CeT := if E.C g = 0 then s else if opW E.W g = 0 then ⟨s.ob + 1, s.wd + (1 + szN E.W g), s.fl + rfN E.W g, s.lk + lnF E.W (2 * g + 1) (rfN E.W g)⟩ else s
noncomputable def ceS (E : ES) : Nat → CeT
  | 0 => ⟨0, 0, 0, 0⟩
  | g + 1 => ceStep E g (ceS E g)
def byN (E : ES) (v : Nat) : Nat → Nat := cnt (fun g => E.C g == v)
noncomputable def ceL (E : ES) : List Nat := [byN E 0 16384, byN E 1 16384, byN E 2 16384, byN E 3 16384, (ceS E 16384).ob, (ceS E 16384).wd, (ceS E 16384).fl, (ceS E 16384).lk]
theorem ceS_le (E : ES) : ∀ g, g ≤ 16384 → (ceS E g).ob ≤ g ∧ (ceS E g).wd ≤ 8193 * g ∧ (ceS E g).fl ≤ 8192 * g ∧ (ceS E g).lk ≤ 8192 * g
  | 0, _ => ⟨Nat.le_refl _, Nat.le_refl _, Nat.le_refl _, Nat.le_refl _⟩
  | g + 1, hg => by
    obtain ⟨h1, h2, h3, h4⟩ := ceS_le E g (by omega)
    rw [show ceS E (g + 1) = ceStep E g (ceS E g) from rfl]
    generalize ceS E g = s at *
    unfold ceStep
    by_cases hc : E.C g = 0
    · rw [if_pos hc]; omega
    · rw [if_neg hc]
      by_cases ho : opW E.W g = 0
      · rw [if_pos ho]
        have := opW_ok ho (by omega)
        have k1 : lnF E.W (2 * g + 1) (rfN E.W g) ≤ rfN E.W g := cnt_bound _ _
        simp only []
        omega
      · rw [if_neg ho]
        omega
section
variable {l : ML} {E : ES} {w w' w0 : World}
set_option maxRecDepth 100000 in
set_option maxHeartbeats 8000000 in
theorem censusM (h : MM l E w) : Calls Tryz.prog 200 #[.pointer (some ⟨l.m, 0, none⟩)] w fun e w' => e = .returned (.agg ((ceL E).map natV).toArray) ∧ Hid (Below w.heap.size w w') := by
  have I0 := hid info_ce
  obtain ⟨r, hr⟩ : ∃ r, w.heap.size = r := ⟨_, rfl⟩
  have H0 : Hid (OwV (MM l E) w [(r, 44, [.int .i64 0, .int .i64 0, .int .i64 0, .int .i64 0, .int .i64 0, .int .i64 0, .int .i64 0, .int .i64 0])] (w.alloc (.cells #[.int .i64 0, .int .i64 0, .int .i64 0, .int .i64 0, .int .i64 0, .int .i64 0, .int .i64 0, .int .i64 0] 44))) := hid ((OwV.start h MM.stays).new hr 44 [.int .i64 0, .int .i64 0, .int .i64 0, .int .i64 0, .int .i64 0, .int .i64 0, .int .i64 0, .int .i64 0])
  clear h
  go_enter Tryz.func200, Tryz.ntmps200
  go_upto_region 1 with fail
  (try simp only [hr])
  generalize hw1 : w.alloc _ = w1 at H0 ⊢
  clear hw1 hr
  obtain ⟨u, hu⟩ : ∃ u, w1.heap.size = u := ⟨_, rfl⟩
  have H1 : Hid (OwV (MM l E) w [(u, 44, [.int .i64 0, .int .i64 0, .int .i64 0, .int .i64 0, .int .i64 0, .int .i64 0, .int .i64 0, .int .i64 0]), (r, 44, [.int .i64 0, .int .i64 0, .int .i64 0, .int .i64 0, .int .i64 0, .int .i64 0, .int .i64 0, .int .i64 0])] (w1.alloc (.cells #[.int .i64 0, .int .i64 0, .int .i64 0, .int .i64 0, .int .i64 0, .int .i64 0, .int .i64 0, .int .i64 0] 44))) := hid (H0.out.new hu 44 [.int .i64 0, .int .i64 0, .int .i64 0, .int .i64 0, .int .i64 0, .int .i64 0, .int .i64 0, .int .i64 0])
  go_upto_region 2 with fail
  (try simp only [hu])
  generalize hw2 : w1.alloc _ = w2 at H1 ⊢
  clear hw2 hu H0
  go_upto_region 3 with fail
  go_loopw [4] (fun v wr => ∃ g x0 x1 x2 x3 x4 x5 x6 x7 : Nat, v = .int .i64 (g : Int) ∧ g ≤ 16384 ∧ Hid (x0 = byN E 0 g ∧ x1 = byN E 1 g ∧ x2 = byN E 2 g ∧ x3 = byN E 3 g ∧ x4 = (ceS E g).ob ∧ x5 = (ceS E g).wd ∧ x6 = (ceS E g).fl ∧ x7 = (ceS E g).lk) ∧ Hid (OwV (MM l E) w [(u, 44, [.int .i64 (x0 : Int), .int .i64 (x1 : Int), .int .i64 (x2 : Int), .int .i64 (x3 : Int), .int .i64 (x4 : Int), .int .i64 (x5 : Int), .int .i64 (x6 : Int), .int .i64 (x7 : Int)]), (r, 44, [.int .i64 0, .int .i64 0, .int .i64 0, .int .i64 0, .int .i64 0, .int .i64 0, .int .i64 0, .int .i64 0])] wr)) (fun v _ => 16384 - (intOf v).toNat)
  case atStart => exact ⟨0, 0, 0, 0, 0, 0, 0, 0, 0, rfl, by omega, hid ⟨rfl, rfl, rfl, rfl, rfl, rfl, rfl, rfl⟩, H1⟩
  case round =>
  clear H1
  obtain ⟨g, x0, x1, x2, x3, x4, x5, x6, x7, rfl, hg, HS, HK⟩ := hrel
  by_cases hgn : g < 16384
  rotate_left
  · as_aux_lemma =>
    have dg : decide ((g : Int) < 16384) = false := decide_eq_false (by omega)
    have HE : Hid ([.int .i64 (x0 : Int), .int .i64 (x1 : Int), .int .i64 (x2 : Int), .int .i64 (x3 : Int), .int .i64 (x4 : Int), .int .i64 (x5 : Int), .int .i64 (x6 : Int), .int .i64 (x7 : Int)] = (ceL E).map natV) := hid (by
      obtain ⟨e0, e1, e2, e3, e4, e5, e6, e7⟩ := HS.out
      rw [e0, e1, e2, e3, e4, e5, e6, e7, show g = 16384 by omega]
      rfl)
    clear HS
    have Hx := hid (HK.out.blk (k := 0) rfl)
    have Hy := hid (HK.out.blk (k := 1) rfl)
    go_wp2_with (first | (refine wpList_load_blk rfl 44 _ rfl u rfl [.int .i64 (x0 : Int), .int .i64 (x1 : Int), .int .i64 (x2 : Int), .int .i64 (x3 : Int), .int .i64 (x4 : Int), .int .i64 (x5 : Int), .int .i64 (x6 : Int), .int .i64 (x7 : Int)] Hx.out _ Tryz.underlying44 rfl I0.out ?_) | (refine wpList_store_blk rfl 44 _ _ rfl r rfl [.int .i64 (x0 : Int), .int .i64 (x1 : Int), .int .i64 (x2 : Int), .int .i64 (x3 : Int), .int .i64 (x4 : Int), .int .i64 (x5 : Int), .int .i64 (x6 : Int), .int .i64 (x7 : Int)] rfl Hy.out rfl I0.out (by rw [HE.out]; exact natV_one _) ?_; intro w9 HB9 HU9))
    refine bodyPost_ret (results_blk (cs := [.int .i64 (x0 : Int), .int .i64 (x1 : Int), .int .i64 (x2 : Int), .int .i64 (x3 : Int), .int .i64 (x4 : Int), .int .i64 (x5 : Int), .int .i64 (x6 : Int), .int .i64 (x7 : Int)]) Tryz.results200 rfl agg_ce HB9.out) rfl ?_
    exact ⟨by rw [HE.out], hid (HK.out.out (k := 1) rfl HU9.out)⟩
  as_aux_lemma =>
  have dg : decide ((g : Int) < 16384) = true := decide_eq_true (by omega)
  have hle : x0 ≤ 16384 ∧ x1 ≤ 16384 ∧ x2 ≤ 16384 ∧ x3 ≤ 16384 ∧ x4 ≤ 16384 ∧ x5 ≤ 140000000 ∧ x6 ≤ 140000000 ∧ x7 ≤ 140000000 := by
    obtain ⟨e0, e1, e2, e3, e4, e5, e6, e7⟩ := HS.out
    have := ceS_le E g (by omega)
    have h0 : byN E 0 g ≤ g := cnt_bound _ _
    have h1 : byN E 1 g ≤ g := cnt_bound _ _
    have h2 : byN E 2 g ≤ g := cnt_bound _ _
    have h3 : byN E 3 g ≤ g := cnt_bound _ _
    omega
  obtain ⟨lx0, lx1, lx2, lx3, lx4, lx5, lx6, lx7⟩ := hle
  have HB4 : Hid (byN E 0 (g + 1) = byN E 0 g + (E.C g == 0).toNat ∧ byN E 1 (g + 1) = byN E 1 g + (E.C g == 1).toNat ∧ byN E 2 (g + 1) = byN E 2 g + (E.C g == 2).toNat ∧ byN E 3 (g + 1) = byN E 3 g + (E.C g == 3).toNat) := hid ⟨rfl, rfl, rfl, rfl⟩
  have HSn : Hid (ceS E (g + 1) = ceStep E g (ceS E g)) := hid rfl
  have HQS : Hid (ceS E g = ⟨x4, x5, x6, x7⟩ ∧ x0 = byN E 0 g ∧ x1 = byN E 1 g ∧ x2 = byN E 2 g ∧ x3 = byN E 3 g) := hid (by
    obtain ⟨e0, e1, e2, e3, e4, e5, e6, e7⟩ := HS.out
    rw [e4, e5, e6, e7]
    exact ⟨rfl, e0, e1, e2, e3⟩)
  rw [HQS.out.1] at HSn
  rw [← HQS.out.2.1, ← HQS.out.2.2.1, ← HQS.out.2.2.2.1, ← HQS.out.2.2.2.2] at HB4
  clear HS HQS
  unfold ceStep at HSn
  simp only [] at HSn
  have hcl := HK.out.b.cl g
  obtain ⟨cv, hcv⟩ : ∃ cv, E.C g = cv := ⟨_, rfl⟩
  have HCv := hid hcv
  rw [hcv] at HSn HB4 hcl
  clear hcv
  go_upto_region 5 with fail
  go_cut [] from 14 to 26 (fun wd => ∃ y0 y1 y2 y3 : Nat, Hid (y0 = byN E 0 (g + 1) ∧ y1 = byN E 1 (g + 1) ∧ y2 = byN E 2 (g + 1) ∧ y3 = byN E 3 (g + 1)) ∧ Hid (OwV (MM l E) w [(u, 44, [.int .i64 (y0 : Int), .int .i64 (y1 : Int), .int .i64 (y2 : Int), .int .i64 (y3 : Int), .int .i64 (x4 : Int), .int .i64 (x5 : Int), .int .i64 (x6 : Int), .int .i64 (x7 : Int)]), (r, 44, [.int .i64 0, .int .i64 0, .int .i64 0, .int .i64 0, .int .i64 0, .int .i64 0, .int .i64 0, .int .i64 0])] wd))
  case first =>
    have c1 := HK.out.b.cells.2.1
    have cc := HK.out.b.count hgn
    rw [HCv.out] at cc
    have q0 : wr.cell? ⟨u, 0, none⟩ = some (.int .i64 (x0 : Int)) := HK.out.cell (k := 0) rfl 0
    have q1 : wr.cell? ⟨u, 1, none⟩ = some (.int .i64 (x1 : Int)) := HK.out.cell (k := 0) rfl 1
    have q2 : wr.cell? ⟨u, 2, none⟩ = some (.int .i64 (x2 : Int)) := HK.out.cell (k := 0) rfl 2
    have q3 : wr.cell? ⟨u, 3, none⟩ = some (.int .i64 (x3 : Int)) := HK.out.cell (k := 0) rfl 3
    have z0 : wr.frozen? ⟨u, 0, none⟩ = false := HK.out.frozen (k := 0) rfl 0
    have z1 : wr.frozen? ⟨u, 1, none⟩ = false := HK.out.frozen (k := 0) rfl 1
    have z2 : wr.frozen? ⟨u, 2, none⟩ = false := HK.out.frozen (k := 0) rfl 2
    have z3 : wr.frozen? ⟨u, 3, none⟩ = false := HK.out.frozen (k := 0) rfl 3
    rcases (by omega : cv = 0 ∨ cv = 1 ∨ cv = 2 ∨ cv = 3) with rfl | rfl | rfl | rfl
    · as_aux_lemma =>
      obtain ⟨y, hy⟩ : ∃ y, x0 + 1 = y := ⟨_, rfl⟩
      have ey : (x0 : Int) + 1 = (y : Int) := by omega
      have HP : Hid (OwV (MM l E) w [(u, 44, [.int .i64 (y : Int), .int .i64 (x1 : Int), .int .i64 (x2 : Int), .int .i64 (x3 : Int), .int .i64 (x4 : Int), .int .i64 (x5 : Int), .int .i64 (x6 : Int), .int .i64 (x7 : Int)]), (r, 44, [.int .i64 0, .int .i64 0, .int .i64 0, .int .i64 0, .int .i64 0, .int .i64 0, .int .i64 0, .int .i64 0])] (wr.setCell ⟨u, 0, none⟩ (.int .i64 (y : Int)))) := hid (HK.out.put (k := 0) rfl 0 (.int .i64 (y : Int)))
      have HE : Hid (y = byN E 0 (g + 1) ∧ x1 = byN E 1 (g + 1) ∧ x2 = byN E 2 (g + 1) ∧ x3 = byN E 3 (g + 1)) := hid (by
        obtain ⟨e0, e1, e2, e3⟩ := HB4.out
        rw [e0, e1, e2, e3, ← hy]
        exact ⟨rfl, rfl, rfl, rfl⟩)
      clear hy HB4 HSn
      go_wp2
      go_meet
      case rel => exact ⟨y, x1, x2, x3, HE, HP⟩
    · as_aux_lemma =>
      obtain ⟨y, hy⟩ : ∃ y, x1 + 1 = y := ⟨_, rfl⟩
      have ey : (x1 : Int) + 1 = (y : Int) := by omega
      have HP : Hid (OwV (MM l E) w [(u, 44, [.int .i64 (x0 : Int), .int .i64 (y : Int), .int .i64 (x2 : Int), .int .i64 (x3 : Int), .int .i64 (x4 : Int), .int .i64 (x5 : Int), .int .i64 (x6 : Int), .int .i64 (x7 : Int)]), (r, 44, [.int .i64 0, .int .i64 0, .int .i64 0, .int .i64 0, .int .i64 0, .int .i64 0, .int .i64 0, .int .i64 0])] (wr.setCell ⟨u, 1, none⟩ (.int .i64 (y : Int)))) := hid (HK.out.put (k := 0) rfl 1 (.int .i64 (y : Int)))
      have HE : Hid (x0 = byN E 0 (g + 1) ∧ y = byN E 1 (g + 1) ∧ x2 = byN E 2 (g + 1) ∧ x3 = byN E 3 (g + 1)) := hid (by
        obtain ⟨e0, e1, e2, e3⟩ := HB4.out
        rw [e0, e1, e2, e3, ← hy]
        exact ⟨rfl, rfl, rfl, rfl⟩)
      clear hy HB4 HSn
      go_wp2
      go_meet
      case rel => exact ⟨x0, y, x2, x3, HE, HP⟩
    · as_aux_lemma =>
      obtain ⟨y, hy⟩ : ∃ y, x2 + 1 = y := ⟨_, rfl⟩
      have ey : (x2 : Int) + 1 = (y : Int) := by omega
      have HP : Hid (OwV (MM l E) w [(u, 44, [.int .i64 (x0 : Int), .int .i64 (x1 : Int), .int .i64 (y : Int), .int .i64 (x3 : Int), .int .i64 (x4 : Int), .int .i64 (x5 : Int), .int .i64 (x6 : Int), .int .i64 (x7 : Int)]), (r, 44, [.int .i64 0, .int .i64 0, .int .i64 0, .int .i64 0, .int .i64 0, .int .i64 0, .int .i64 0, .int .i64 0])] (wr.setCell ⟨u, 2, none⟩ (.int .i64 (y : Int)))) := hid (HK.out.put (k := 0) rfl 2 (.int .i64 (y : Int)))
      have HE : Hid (x0 = byN E 0 (g + 1) ∧ x1 = byN E 1 (g + 1) ∧ y = byN E 2 (g + 1) ∧ x3 = byN E 3 (g + 1)) := hid (by
        obtain ⟨e0, e1, e2, e3⟩ := HB4.out
        rw [e0, e1, e2, e3, ← hy]
        exact ⟨rfl, rfl, rfl, rfl⟩)
      clear hy HB4 HSn
      go_wp2
      go_meet
      case rel => exact ⟨x0, x1, y, x3, HE, HP⟩
    · as_aux_lemma =>
      obtain ⟨y, hy⟩ : ∃ y, x3 + 1 = y := ⟨_, rfl⟩
      have ey : (x3 : Int) + 1 = (y : Int) := by omega
      have HP : Hid (OwV (MM l E) w [(u, 44, [.int .i64 (x0 : Int), .int .i64 (x1 : Int), .int .i64 (x2 : Int), .int .i64 (y : Int), .int .i64 (x4 : Int), .int .i64 (x5 : Int), .int .i64 (x6 : Int), .int .i64 (x7 : Int)]), (r, 44, [.int .i64 0, .int .i64 0, .int .i64 0, .int .i64 0, .int .i64 0, .int .i64 0, .int .i64 0, .int .i64 0])] (wr.setCell ⟨u, 3, none⟩ (.int .i64 (y : Int)))) := hid (HK.out.put (k := 0) rfl 3 (.int .i64 (y : Int)))
      have HE : Hid (x0 = byN E 0 (g + 1) ∧ x1 = byN E 1 (g + 1) ∧ x2 = byN E 2 (g + 1) ∧ y = byN E 3 (g + 1)) := hid (by
        obtain ⟨e0, e1, e2, e3⟩ := HB4.out
        rw [e0, e1, e2, e3, ← hy]
        exact ⟨rfl, rfl, rfl, rfl⟩)
      clear hy HB4 HSn
      go_wp2
      go_meet
      case rel => exact ⟨x0, x1, x2, y, HE, HP⟩
  case rest =>
  obtain ⟨wd, hwc_⟩ : ∃ x, x = wc := ⟨_, rfl⟩
  subst hwc_
  obtain ⟨y0, y1, y2, y3, HY, HD⟩ := hcut
  clear HK HB4
  have c1 := HD.out.b.cells.2.1
  have cc := HD.out.b.count hgn
  rw [HCv.out] at cc
  clear HCv
  by_cases hcz : cv = 0
  · as_aux_lemma =>
    rw [if_pos hcz] at HSn
    have d0 : ((cv : Int) == 0) = true := by simp; omega
    clear hcz
    go_wp2
    exact ⟨⟨g + 1, y0, y1, y2, y3, x4, x5, x6, x7, by go_num, by omega, hid (by rw [HSn.out]; obtain ⟨a, b, c, d⟩ := HY.out; exact ⟨a, b, c, d, rfl, rfl, rfl, rfl⟩), HD⟩, by simp [intOf]; omega⟩
  as_aux_lemma =>
  rw [if_neg hcz] at HSn
  have d0 : ((cv : Int) == 0) = false := by simp; omega
  clear hcz
  obtain ⟨k, hk⟩ : ∃ k, 2 * g = k := ⟨_, rfl⟩
  have ek : (g : Int) * 2 = (k : Int) := by omega
  have hkb : k < 32768 := by omega
  have HOw : Hid (∀ wz, MM l E wz → Calls Tryz.prog 192 #[.pointer (some ⟨l.m, 0, none⟩), .int .i64 (k : Int)] wz fun e w' => e = .returned (.tuple (owR E.W g (opW E.W g))) ∧ w' = wz) := hid (fun wz hz => by rw [← hk]; exact owM hz hgn)
  rw [hk] at HSn
  have Hk := hid hk
  clear hk
  by_cases ho : opW E.W g = 0
  rotate_left
  · as_aux_lemma =>
    rw [if_neg ho] at HSn
    unfold owR at HOw
    rw [if_neg ho] at HOw
    generalize opW E.W g = cd at *
    have dc : (cd != 0) = true := by simpa using ho
    have dc' : (cd == 0) = false := by simpa using ho
    (go_wp2_with fail; refine (HOw.out _ HD.out.b).mono ?_; rintro e_ w_ ⟨he_, hw_⟩; subst he_; have hs_ := hw_.symm; clear hw_; subst hs_)
    go_wp2
    exact ⟨⟨g + 1, y0, y1, y2, y3, x4, x5, x6, x7, by go_num, by omega, hid (by rw [HSn.out]; obtain ⟨a, b, c, d⟩ := HY.out; exact ⟨a, b, c, d, rfl, rfl, rfl, rfl⟩), HD⟩, by simp [intOf]; omega⟩
  as_aux_lemma =>
  rw [if_pos ho] at HSn
  unfold owR at HOw
  rw [if_pos ho] at HOw
  obtain ⟨o1, o2, o3, o4, o5, o6⟩ := opW_ok ho hgn
  rw [o1, o2, Hk.out] at HOw
  rw [Hk.out] at o6
  generalize szN E.W g = sz at *
  generalize rfN E.W g = rf at *
  clear ho o1 o2
  (go_wp2_with fail; refine (HOw.out _ HD.out.b).mono ?_; rintro e_ w_ ⟨he_, hw_⟩; subst he_; have hs_ := hw_.symm; clear hw_; subst hs_)
  clear HOw c1 cc
  obtain ⟨s1, hs1⟩ : ∃ s1, 1 + sz = s1 := ⟨_, rfl⟩
  have es1 : (1 : Int) + (sz : Int) = (s1 : Int) := by omega
  obtain ⟨y4, hy4⟩ : ∃ y, x4 + 1 = y := ⟨_, rfl⟩
  have ey4 : (x4 : Int) + 1 = (y4 : Int) := by omega
  obtain ⟨y5, hy5⟩ : ∃ y, x5 + s1 = y := ⟨_, rfl⟩
  have ey5 : (x5 : Int) + (s1 : Int) = (y5 : Int) := by omega
  obtain ⟨y6, hy6⟩ : ∃ y, x6 + rf = y := ⟨_, rfl⟩
  have ey6 : (x6 : Int) + (rf : Int) = (y6 : Int) := by omega
  have lys : y4 ≤ 20000 ∧ y5 ≤ 150000000 ∧ y6 ≤ 150000000 := by omega
  rw [hs1, hy4, hy5, hy6] at HSn
  have hs1b : s1 ≤ 8193 := by omega
  clear hs1 hy4 hy5 hy6
  have cx_ : wd.cell? ⟨u, 4, none⟩ = some (.int .i64 (x4 : Int)) := HD.out.cell (k := 0) rfl 4
  have zx_ : wd.frozen? ⟨u, 4, none⟩ = false := HD.out.frozen (k := 0) rfl 4
  have HP4 : Hid (OwV (MM l E) w [(u, 44, [.int .i64 (y0 : Int), .int .i64 (y1 : Int), .int .i64 (y2 : Int), .int .i64 (y3 : Int), .int .i64 (y4 : Int), .int .i64 (x5 : Int), .int .i64 (x6 : Int), .int .i64 (x7 : Int)]), (r, 44, [.int .i64 0, .int .i64 0, .int .i64 0, .int .i64 0, .int .i64 0, .int .i64 0, .int .i64 0, .int .i64 0])] (wd.setCell ⟨u, 4, none⟩ (.int .i64 (y4 : Int)))) := hid (HD.out.put (k := 0) rfl 4 (.int .i64 (y4 : Int)))
  go_upto_region 10 with fail
  generalize hz_ : World.setCell _ _ _ = we at HP4 ⊢
  clear hz_ cx_ zx_ HD
  clear ey4
  have cx_ : we.cell? ⟨u, 5, none⟩ = some (.int .i64 (x5 : Int)) := HP4.out.cell (k := 0) rfl 5
  have zx_ : we.frozen? ⟨u, 5, none⟩ = false := HP4.out.frozen (k := 0) rfl 5
  have HP5 : Hid (OwV (MM l E) w [(u, 44, [.int .i64 (y0 : Int), .int .i64 (y1 : Int), .int .i64 (y2 : Int), .int .i64 (y3 : Int), .int .i64 (y4 : Int), .int .i64 (y5 : Int), .int .i64 (x6 : Int), .int .i64 (x7 : Int)]), (r, 44, [.int .i64 0, .int .i64 0, .int .i64 0, .int .i64 0, .int .i64 0, .int .i64 0, .int .i64 0, .int .i64 0])] (we.setCell ⟨u, 5, none⟩ (.int .i64 (y5 : Int)))) := hid (HP4.out.put (k := 0) rfl 5 (.int .i64 (y5 : Int)))
  go_upto_region 11 with fail
  generalize hz_ : World.setCell _ _ _ = wf at HP5 ⊢
  clear hz_ cx_ zx_ HP4
  clear ey5
  have cx_ : wf.cell? ⟨u, 6, none⟩ = some (.int .i64 (x6 : Int)) := HP5.out.cell (k := 0) rfl 6
  have zx_ : wf.frozen? ⟨u, 6, none⟩ = false := HP5.out.frozen (k := 0) rfl 6
  have HP6 : Hid (OwV (MM l E) w [(u, 44, [.int .i64 (y0 : Int), .int .i64 (y1 : Int), .int .i64 (y2 : Int), .int .i64 (y3 : Int), .int .i64 (y4 : Int), .int .i64 (y5 : Int), .int .i64 (y6 : Int), .int .i64 (x7 : Int)]), (r, 44, [.int .i64 0, .int .i64 0, .int .i64 0, .int .i64 0, .int .i64 0, .int .i64 0, .int .i64 0, .int .i64 0])] (wf.setCell ⟨u, 6, none⟩ (.int .i64 (y6 : Int)))) := hid (HP5.out.put (k := 0) rfl 6 (.int .i64 (y6 : Int)))
  go_upto_region 12 with fail
  generalize hz_ : World.setCell _ _ _ = wg at HP6 ⊢
  clear hz_ cx_ zx_ HP5
  clear ey6
  go_upto_region 13 with fail
  go_loopw [9] (fun v wr => ∃ q q1 z7 : Nat, v = .int .i64 (q1 : Int) ∧ (q1 ≤ q + 1 ∧ q + 1 ≤ q1) ∧ q ≤ rf ∧ z7 ≤ x7 + q ∧ Hid (z7 = x7 + lnF E.W (k + 1) q) ∧ Hid (OwV (MM l E) w [(u, 44, [.int .i64 (y0 : Int), .int .i64 (y1 : Int), .int .i64 (y2 : Int), .int .i64 (y3 : Int), .int .i64 (y4 : Int), .int .i64 (y5 : Int), .int .i64 (y6 : Int), .int .i64 (z7 : Int)]), (r, 44, [.int .i64 0, .int .i64 0, .int .i64 0, .int .i64 0, .int .i64 0, .int .i64 0, .int .i64 0, .int .i64 0])] wr)) (fun v _ => 10000 - (intOf v).toNat)
  case atStart => exact ⟨0, 1, x7, rfl, by omega, by omega, by omega, hid rfl, HP6⟩
  case round =>
  clear HP6
  obtain ⟨q, q1, z7, rfl, hq1, hq, hz7, HZ, HP6⟩ := hrel
  by_cases hqr : q < rf
  rotate_left
  · as_aux_lemma =>
    have dq : decide ((q1 : Int) ≤ (rf : Int)) = false := decide_eq_false (by omega)
    have dqn : decide (q1 ≤ rf) = false := decide_eq_false (by omega)
    have HF : Hid (ceS E (g + 1) = ⟨y4, y5, y6, z7⟩) := hid (by rw [HSn.out, HZ.out, show q = rf by omega])
    clear HSn HZ
    go_wp2
    exact ⟨⟨g + 1, y0, y1, y2, y3, y4, y5, y6, z7, by go_num, by omega, hid (by rw [HF.out]; obtain ⟨a, b, c, d⟩ := HY.out; exact ⟨a, b, c, d, rfl, rfl, rfl, rfl⟩), HP6⟩, by simp [intOf]; omega⟩
  have dq : decide ((q1 : Int) ≤ (rf : Int)) = true := decide_eq_true (by omega)
  have dqn : decide (q1 ≤ rf) = true := decide_eq_true (by omega)
  have c0 := HP6.out.b.cells.1
  obtain ⟨y, hy⟩ : ∃ y, k + q1 = y := ⟨_, rfl⟩
  have ey : (k : Int) + (q1 : Int) = (y : Int) := by omega
  have hyb : y < 32768 := by omega
  have cw := HP6.out.b.word hyb
  have HWy : Hid (lnF E.W (k + 1) (q + 1) = lnF E.W (k + 1) q + (lkB (E.W y)).toNat) := hid (by rw [show y = k + 1 + q by omega]; rfl)
  obtain ⟨x, hx⟩ : ∃ x, E.W y = x := ⟨_, rfl⟩
  rw [hx] at cw HWy
  clear hx hy
  have HI2 := hid (fun wz => refOkM (x : Int) wz)
  unfold lkB at HWy
  have cx_ : wr.cell? ⟨u, 7, none⟩ = some (.int .i64 (z7 : Int)) := HP6.out.cell (k := 0) rfl 7
  have zx_ : wr.frozen? ⟨u, 7, none⟩ = false := HP6.out.frozen (k := 0) rfl 7
  by_cases hx0 : x = 0
  · as_aux_lemma =>
    have d0 : ((x : Int) != 0) = false := by simp; omega
    have d0' : ((x : Int) == 0) = true := by simp; omega
    have HN : Hid (z7 = x7 + lnF E.W (k + 1) (q + 1)) := hid (by rw [HWy.out, show (x == 0) = true by simpa using hx0, HZ.out]; rfl)
    clear HZ HWy hx0
    go_wp2
    exact ⟨⟨q + 1, q1 + 1, z7, by go_num, by omega, by omega, by omega, HN, HP6⟩, by simp [intOf]; omega⟩
  have d0 : ((x : Int) != 0) = true := by simp; omega
  have d0' : ((x : Int) == 0) = false := by simp; omega
  have e0 : (x == 0) = false := by simpa using hx0
  rw [e0] at HWy
  clear hx0 e0
  by_cases hr : rfOk (x : Int)
  · as_aux_lemma =>
    rw [decide_eq_true hr] at HI2 HWy
    obtain ⟨z8, hz8⟩ : ∃ z8, z7 + 1 = z8 := ⟨_, rfl⟩
    have ez8 : (z7 : Int) + 1 = (z8 : Int) := by omega
    have HN : Hid (z8 = x7 + lnF E.W (k + 1) (q + 1)) := hid (by rw [HWy.out, ← hz8, HZ.out]; simp only [Bool.not_false, Bool.and_true, Bool.toNat_true]; omega)
    have lz8 : z8 ≤ x7 + (q + 1) := by omega
    have HP7 : Hid (OwV (MM l E) w [(u, 44, [.int .i64 (y0 : Int), .int .i64 (y1 : Int), .int .i64 (y2 : Int), .int .i64 (y3 : Int), .int .i64 (y4 : Int), .int .i64 (y5 : Int), .int .i64 (y6 : Int), .int .i64 (z8 : Int)]), (r, 44, [.int .i64 0, .int .i64 0, .int .i64 0, .int .i64 0, .int .i64 0, .int .i64 0, .int .i64 0, .int .i64 0])] (wr.setCell ⟨u, 7, none⟩ (.int .i64 (z8 : Int)))) := hid (HP6.out.put (k := 0) rfl 7 (.int .i64 (z8 : Int)))
    clear HZ HWy hr hz8
    (go_wp2_with fail; refine (HI2.out _).mono ?_; rintro e_ w_ ⟨he_, hw_⟩; subst he_; have hs_ := hw_.symm; clear hw_; subst hs_)
    go_wp2
    exact ⟨⟨q + 1, q1 + 1, z8, by go_num, by omega, by omega, lz8, HN, HP7⟩, by simp [intOf]; omega⟩
  · as_aux_lemma =>
    rw [decide_eq_false hr] at HI2 HWy
    have HN : Hid (z7 = x7 + lnF E.W (k + 1) (q + 1)) := hid (by rw [HWy.out, HZ.out]; rfl)
    clear HZ HWy hr
    (go_wp2_with fail; refine (HI2.out _).mono ?_; rintro e_ w_ ⟨he_, hw_⟩; subst he_; have hs_ := hw_.symm; clear hw_; subst hs_)
    go_wp2
    exact ⟨⟨q + 1, q1 + 1, z7, by go_num, by omega, by omega, by omega, HN, HP6⟩, by simp [intOf]; omega⟩
end
end Go.Proofs.Qxb6500887aGreat
