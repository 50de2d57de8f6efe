/- The model's steps: format, erase. -/
import Derived.Test.Qxb6500887aGreatAyG
import Derived.Deep.DeepCutAuto
namespace Go.Proofs.Qxb6500887aGreat
open Go.RowKit
set_option linter.unusedSimpArgs false
set_option linter.unusedVariables false
section
variable {l : ML} {E : ES} {w w' w0 : World} {p : Nat}
theorem onE_ok {W : Nat → Nat} {x : Int} (h : onE W x = 0) : wantO x = 0 ∧ isHdr (W (2 * gIx x)) ∧ 1 ≤ decSize (W (2 * gIx x)) ∧ decSize (W (2 * gIx x)) ≤ 8192 ∧ 0 ≤ decRefs (W (2 * gIx x)) ∧ decRefs (W (2 * gIx x)) ≤ decSize (W (2 * gIx x)) ∧ ((2 * gIx x : Nat) : Int) + 1 + decSize (W (2 * gIx x)) ≤ 32768 := by
  unfold onE at h
  by_cases h1 : wantO x = 0
  · rw [if_pos h1] at h
    unfold opW at h
    by_cases h2 : isHdr (W (2 * gIx x))
    · rw [if_pos h2] at h
      obtain ⟨b1, b2, b3, b4⟩ := hdr_ok h2.2.2
      unfold lenOut at h
      split at h
      · exact absurd h (by decide)
      · split at h
        · exact absurd h (by decide)
        · exact ⟨h1, h2, b1, b2, b3, b4, by omega⟩
    · rw [if_neg h2] at h; exact absurd h (by decide)
  · rw [if_neg h1] at h; exact absurd h h1
def eraseE (E : ES) (x : Int) : Int × ES := if onE E.W x = 0 then (0, { E.tch with W := zrW E.W (2 * gIx x) (2 * gIx x + (1 + (decSize (E.W (2 * gIx x))).toNat)), G := flB E.G (2 * gIx x) (2 * gIx x + (1 + (decSize (E.W (2 * gIx x))).toNat)) false, C := fup E.C (gIx x) 0, K := fup E.K (gIx x) false }) else (onE E.W x, E)
def formatE (E : ES) (x s r : Int) : Int × ES := if wantO x = 0 then (if hdrCheck s r = 0 then (if lenOut ((2 * gIx x : Nat) : Int) (1 + s) = 0 then (0, { E.tch with W := zrW (fup E.W (2 * gIx x) (encW s r).toNat) (2 * gIx x + 1) (2 * gIx x + 1 + s.toNat) }) else (lenOut ((2 * gIx x : Nat) : Int) (1 + s), E)) else (hdrCheck s r, E)) else (wantO x, E)
set_option maxRecDepth 100000 in
set_option maxHeartbeats 1000000 in
theorem eraseM (h : MM l E w) (x : Int) : Calls Tryz.prog 99 #[.pointer (some ⟨l.m, 0, none⟩), .int .u64 x] w fun e w' => e = .returned (.agg (rsC (eraseE E x).1 0 0).toArray) ∧ Hid (MD w l (eraseE E x).2 w') := by
  have I0 := hid info_rs
  have HP := hid (fun wz (hz : MM l E wz) => opM hz x)
  have HR := hid (fun (c : Int) (wz : World) => refM c wz)
  have HA := hid (fun wz => ansM 0 0 wz)
  obtain ⟨p, hp⟩ : ∃ p, w.heap.size = p := ⟨_, rfl⟩
  have HX := hid (MX.start h hp)
  dsimp only [rsC, rsT] at HX
  clear h
  unfold eraseE
  unfold owR at HP
  by_cases hc : onE E.W x = 0
  rotate_left
  · as_aux_lemma =>
    rw [if_neg hc]
    rw [if_neg hc] at HP
    generalize onE E.W x = c at *
    have dc : (c != 0) = true := by simpa using hc
    have dc' : (c == 0) = false := by simpa using hc
    go_enter Tryz.func99, Tryz.ntmps99
    go_upto_region 1 with fail
    (try simp only [hp])
    generalize hw2 : w.alloc _ = w2 at HX ⊢
    clear hw2 hp
    (go_wp2_with fail; refine (HP.out _ HX.out.md.mm).mono ?_; rintro e_ w_ ⟨he_, hw_⟩; subst he_; have hs_ := hw_.symm; clear hw_; subst hs_)
    go_wp2_with fail
    refine (HR.out c _).mono ?_
    rintro e w3 ⟨rfl, hb3⟩
    have HX3 := hid (HX.out.below hb3)
    clear hb3 HX
    go_wp2_with (refine wpList_store_blk rfl 46 _ _ rfl p rfl (rsC c 0 0) rfl HX3.out.b rfl I0.out (rsC_one _ _ _) ?_; intro w9 HB9 HU9)
    refine bodyPost_ret (results_blk (cs := (rsC c 0 0)) Tryz.results99 rfl agg_rs HB9.out) rfl ?_
    exact ⟨rfl, hid (HX3.out.done HU9.out)⟩
  as_aux_lemma =>
  rw [if_pos hc]
  rw [if_pos hc] at HP
  obtain ⟨b0, b1, b2, b3, b4, b5, b6⟩ := onE_ok hc
  obtain ⟨g1, g2, g3⟩ := gIx_of b0
  obtain ⟨s, hs⟩ : ∃ s : Nat, decSize (E.W (2 * gIx x)) = (s : Int) := ⟨(decSize (E.W (2 * gIx x))).toNat, by omega⟩
  rw [hs] at HP b2 b3 b5 b6 ⊢
  rw [show ((s : Int)).toNat = s by omega]
  clear hs hc b0 b1 g1 g3 b4 b5
  generalize decRefs (E.W (2 * gIx x)) = rf at *
  generalize gIx x = g at *
  obtain ⟨k, hk⟩ : ∃ k, 2 * g = k := ⟨_, rfl⟩
  rw [hk] at HP b6 ⊢
  have hkm : k + 1 + s ≤ 32768 := by omega
  have hs1 : 1 ≤ s ∧ s ≤ 8192 := by omega
  have Hk := hid hk
  clear b2 b3 b6 hk
  go_enter Tryz.func99, Tryz.ntmps99
  go_upto_region 1 with fail
  (try simp only [hp])
  generalize hw2 : w.alloc _ = w2 at HX ⊢
  clear hw2 hp
  (go_wp2_with fail; refine (HP.out _ HX.out.md.mm).mono ?_; rintro e_ w_ ⟨he_, hw_⟩; subst he_; have hs_ := hw_.symm; clear hw_; subst hs_)
  obtain ⟨_, _, _, _, _, c5⟩ := HX.out.md.mm.cells
  have f5 := HX.out.md.mm.m.frozen 5
  have HX2 := hid HX.out.ver
  have vw := ver_wrap E.v
  generalize ((E.v + 1) % 18446744073709551616 : Nat) = v1 at vw HX2
  clear HX
  go_upto_region 5 with fail
  clear c5 f5
  generalize hw3 : World.setCell _ _ _ = w3 at HX2 ⊢
  clear hw3 vw
  clear HP HR
  obtain ⟨y, hy⟩ : ∃ y, k + s = y := ⟨_, rfl⟩
  have ey : (k : Int) + (s : Int) = (y : Int) := by omega
  go_upto_region 6 with fail
  go_loopw [9] (fun u wr => ∃ q : Nat, u = .int .i64 ((k + q : Nat) : Int) ∧ q ≤ s + 1 ∧ Hid (MX w l { E.tch with W := zrW E.W k (k + q), G := flB E.G k (k + q) false } p wr)) (fun u _ => 32769 - (intOf u).toNat)
  case atStart => exact ⟨0, rfl, Nat.zero_le _, hid (by rw [flB_zero, zrW_zero]; exact HX2.out)⟩
  case round =>
  clear HX2
  obtain ⟨q, rfl, hq, HK⟩ := hrel
  obtain ⟨i, hi⟩ : ∃ i, k + q = i := ⟨_, rfl⟩
  have Hi := hid hi
  rw [hi]
  by_cases hql : i ≤ y
  · as_aux_lemma =>
    have dq : decide ((i : Int) ≤ (y : Int)) = true := decide_eq_true (by omega)
    have hi2 : i < 32768 := by omega
    have c0 := HK.out.md.mm.cells.1
    obtain ⟨cv, cz⟩ : ∃ cv, wr.cell? ⟨l.w, i, none⟩ = some cv := ⟨_, HK.out.md.mm.word hi2⟩
    have fz := HK.out.md.mm.ws.frozen i
    have HF := hid (HK.out.step ((MD.start HK.out.md.mm).putW (i := i) (x := 0) hi2 (by decide)))
    clear HK
    go_upto_region 9 with fail
    clear c0 cz fz
    generalize hw5 : wr.setCell _ _ = w5 at HF ⊢
    clear hw5
    have c3 := HF.out.md.mm.cells.2.2.2.1
    obtain ⟨cv, cz⟩ : ∃ cv, w5.cell? ⟨l.g, i, none⟩ = some cv := ⟨_, HF.out.md.mm.log hi2⟩
    have fz := HF.out.md.mm.g.frozen i
    have HG : Hid (MX w l { E.tch with W := zrW E.W k (k + (q + 1)), G := flB E.G k (k + (q + 1)) false } p (w5.setCell ⟨l.g, i, none⟩ (.bool false))) := hid (by
      have := HF.out.step ((MD.start HF.out.md.mm).putG (i := i) (x := false) hi2)
      rw [show k + (q + 1) = k + q + 1 by omega, flB_step, zrW_step, Hi.out]
      rw [Hi.out] at this
      exact this)
    clear HF
    go_wp2
    exact ⟨⟨q + 1, by rw [show k + (q + 1) = i + 1 by omega]; go_num, by omega, HG⟩, by simp [intOf]; omega⟩
  · as_aux_lemma =>
    have dq : decide ((i : Int) ≤ (y : Int)) = false := decide_eq_false (by omega)
    have e0 : q = 1 + s := by omega
    subst e0
    clear hi Hi
    have eg : (k : Int).tdiv 2 = (g : Int) := by
      rw [← Hk.out, Int.tdiv_eq_ediv_of_nonneg (by omega)]; omega
    have eg' : (k : Int) / 2 = (g : Int) := by have := Hk.out; omega
    have c1 := HK.out.md.mm.cells.2.1
    obtain ⟨cv, cz⟩ : ∃ cv, wr.cell? ⟨l.c, g, none⟩ = some cv := ⟨_, HK.out.md.mm.count g2⟩
    have fz := HK.out.md.mm.c.frozen g
    have HF := hid (HK.out.step ((MD.start HK.out.md.mm).putC (i := g) (x := 0) g2 (by decide)))
    clear HK
    go_upto_region 11 with fail
    clear c1 cz fz
    generalize hw5 : wr.setCell _ _ = w5 at HF ⊢
    clear hw5
    have c3 := HF.out.md.mm.cells.2.2.1
    obtain ⟨cv, cz⟩ : ∃ cv, w5.cell? ⟨l.k, g, none⟩ = some cv := ⟨_, HF.out.md.mm.mark g2⟩
    have fz := HF.out.md.mm.k.frozen g
    have HG := hid (HF.out.step ((MD.start HF.out.md.mm).putK (i := g) (x := false) g2))
    clear HF
    go_upto_region 12 with fail
    clear c3 cz fz
    generalize hw6 : w5.setCell _ _ = w6 at HG ⊢
    clear hw6
    go_wp2_with fail
    refine (HA.out _).mono ?_
    rintro e w3 ⟨rfl, hb3⟩
    have HX3 := hid (HG.out.below hb3)
    clear hb3 HG
    go_wp2_with (refine wpList_store_blk rfl 46 _ _ rfl p rfl (rsC 0 0 0) rfl HX3.out.b rfl I0.out (rsC_one _ _ _) ?_; intro w9 HB9 HU9)
    refine bodyPost_ret (results_blk (cs := (rsC 0 0 0)) Tryz.results99 rfl agg_rs HB9.out) rfl ?_
    exact ⟨rfl, hid (HX3.out.done HU9.out)⟩
set_option maxRecDepth 100000 in
set_option maxHeartbeats 1000000 in
theorem formatM (h : MM l E w) (x s r : Int) : Calls Tryz.prog 97 #[.pointer (some ⟨l.m, 0, none⟩), .int .u64 x, .int .i64 s, .int .i64 r] w fun e w' => e = .returned (.agg (rsC (formatE E x s r).1 0 0).toArray) ∧ Hid (MD w l (formatE E x s r).2 w') := by
  have I0 := hid info_rs
  have HW := hid (fun wz => ckoM x wz)
  have HS := hid (fun wz => ckshM s r wz)
  have HR := hid (fun (c : Int) (wz : World) => refM c wz)
  have HA := hid (fun wz => ansM 0 0 wz)
  obtain ⟨p, hp⟩ : ∃ p, w.heap.size = p := ⟨_, rfl⟩
  have HX := hid (MX.start h hp)
  dsimp only [rsC, rsT] at HX
  clear h
  unfold formatE
  by_cases hc : wantO x = 0
  rotate_left
  · as_aux_lemma =>
    rw [if_neg hc]
    generalize wantO x = c at *
    have dc : (c != 0) = true := by simpa using hc
    have dc' : (c == 0) = false := by simpa using hc
    go_enter Tryz.func97, Tryz.ntmps97
    go_upto_region 1 with fail
    (try simp only [hp])
    generalize hw2 : w.alloc _ = w2 at HX ⊢
    clear hw2 hp
    (go_wp2_with fail; refine (HW.out _).mono ?_; rintro e_ w_ ⟨he_, hw_⟩; subst he_; have hs_ := hw_.symm; clear hw_; subst hs_)
    go_wp2_with fail
    refine (HR.out c _).mono ?_
    rintro e w3 ⟨rfl, hb3⟩
    have HX3 := hid (HX.out.below hb3)
    clear hb3 HX
    go_wp2_with (refine wpList_store_blk rfl 46 _ _ rfl p rfl (rsC c 0 0) rfl HX3.out.b rfl I0.out (rsC_one _ _ _) ?_; intro w9 HB9 HU9)
    refine bodyPost_ret (results_blk (cs := (rsC c 0 0)) Tryz.results97 rfl agg_rs HB9.out) rfl ?_
    exact ⟨rfl, hid (HX3.out.done HU9.out)⟩
  rw [if_pos hc]
  rw [hc] at HW
  obtain ⟨q1, q2⟩ := wantO_ok hc
  obtain ⟨g1, g2, g3⟩ := gIx_of hc
  have HO := hid (fun wz => wofM' x q1.1 (by have := q1.2; omega) wz)
  rw [show x - 65536 = ((2 * gIx x : Nat) : Int) by omega] at HO
  generalize gIx x = g at *
  clear g1 g3 q1 q2 hc
  by_cases hc : hdrCheck s r = 0
  rotate_left
  · as_aux_lemma =>
    rw [if_neg hc]
    generalize hdrCheck s r = c at *
    have dc : (c != 0) = true := by simpa using hc
    have dc' : (c == 0) = false := by simpa using hc
    go_enter Tryz.func97, Tryz.ntmps97
    go_upto_region 1 with fail
    (try simp only [hp])
    generalize hw2 : w.alloc _ = w2 at HX ⊢
    clear hw2 hp
    (go_wp2_with fail; refine (HW.out _).mono ?_; rintro e_ w_ ⟨he_, hw_⟩; subst he_; have hs_ := hw_.symm; clear hw_; subst hs_)
    (go_wp2_with fail; refine (HS.out _).mono ?_; rintro e_ w_ ⟨he_, hw_⟩; subst he_; have hs_ := hw_.symm; clear hw_; subst hs_)
    go_wp2_with fail
    refine (HR.out c _).mono ?_
    rintro e w3 ⟨rfl, hb3⟩
    have HX3 := hid (HX.out.below hb3)
    clear hb3 HX
    go_wp2_with (refine wpList_store_blk rfl 46 _ _ rfl p rfl (rsC c 0 0) rfl HX3.out.b rfl I0.out (rsC_one _ _ _) ?_; intro w9 HB9 HU9)
    refine bodyPost_ret (results_blk (cs := (rsC c 0 0)) Tryz.results97 rfl agg_rs HB9.out) rfl ?_
    exact ⟨rfl, hid (HX3.out.done HU9.out)⟩
  rw [if_pos hc]
  rw [hc] at HS
  obtain ⟨b1, b2, b3, b4⟩ := hdr_ok hc
  clear hc
  obtain ⟨k, hk⟩ : ∃ k, 2 * g = k := ⟨_, rfl⟩
  rw [hk] at HO ⊢
  have hk2 : k < 32768 := by omega
  clear hk g2
  have HL := hid (fun wz => ckrM (k : Int) (1 + s) 32768 (by omega) (by omega) (by omega) wz)
  rw [show lenG (k : Int) (1 + s) 32768 = lenOut (k : Int) (1 + s) from rfl] at HL
  obtain ⟨s1, hs1⟩ : ∃ s1, 1 + s = s1 := ⟨_, rfl⟩
  have hs2 : 1 ≤ s1 ∧ s1 ≤ 8193 := by omega
  rw [hs1] at HL ⊢
  by_cases hc : lenOut (k : Int) s1 = 0
  rotate_left
  · as_aux_lemma =>
    rw [if_neg hc]
    generalize lenOut (k : Int) s1 = c at *
    have dc : (c != 0) = true := by simpa using hc
    have dc' : (c == 0) = false := by simpa using hc
    go_enter Tryz.func97, Tryz.ntmps97
    go_upto_region 1 with fail
    (try simp only [hp])
    generalize hw2 : w.alloc _ = w2 at HX ⊢
    clear hw2 hp
    (go_wp2_with fail; refine (HW.out _).mono ?_; rintro e_ w_ ⟨he_, hw_⟩; subst he_; have hs_ := hw_.symm; clear hw_; subst hs_)
    (go_wp2_with fail; refine (HS.out _).mono ?_; rintro e_ w_ ⟨he_, hw_⟩; subst he_; have hs_ := hw_.symm; clear hw_; subst hs_)
    (go_wp2_with fail; refine (HO.out _).mono ?_; rintro e_ w_ ⟨he_, hw_⟩; subst he_; have hs_ := hw_.symm; clear hw_; subst hs_)
    (go_wp2_with fail; refine (HL.out _).mono ?_; rintro e_ w_ ⟨he_, hw_⟩; subst he_; have hs_ := hw_.symm; clear hw_; subst hs_)
    go_wp2_with fail
    refine (HR.out c _).mono ?_
    rintro e w3 ⟨rfl, hb3⟩
    have HX3 := hid (HX.out.below hb3)
    clear hb3 HX
    go_wp2_with (refine wpList_store_blk rfl 46 _ _ rfl p rfl (rsC c 0 0) rfl HX3.out.b rfl I0.out (rsC_one _ _ _) ?_; intro w9 HB9 HU9)
    refine bodyPost_ret (results_blk (cs := (rsC c 0 0)) Tryz.results97 rfl agg_rs HB9.out) rfl ?_
    exact ⟨rfl, hid (HX3.out.done HU9.out)⟩
  as_aux_lemma =>
  rw [if_pos hc]
  rw [hc] at HL
  have hb := lenG_ok (lim := 32768) (show lenG (k : Int) s1 32768 = 0 from hc)
  clear hc
  obtain ⟨n, rfl⟩ : ∃ n : Nat, s = (n : Int) := ⟨s.toNat, by omega⟩
  obtain ⟨m, rfl⟩ : ∃ m : Nat, r = (m : Int) := ⟨r.toNat, by omega⟩
  rw [show ((n : Int)).toNat = n by omega]
  obtain ⟨m1, hm1⟩ : ∃ m1 : Nat, m * 65536 = m1 := ⟨_, rfl⟩
  have em1 : (m : Int) * 65536 = (m1 : Int) := by omega
  have bm1 : m1 ≤ 536870912 := by omega
  obtain ⟨m2, hm2⟩ : ∃ m2 : Nat, 13186539708940812288 + m1 = m2 := ⟨_, rfl⟩
  have em2 : (13186539708940812288 : Int) + (m1 : Int) = (m2 : Int) := by omega
  have bm2 : m2 ≤ 13186539709477683200 := by omega
  obtain ⟨m3, hm3⟩ : ∃ m3 : Nat, m2 + n = m3 := ⟨_, rfl⟩
  have em3 : (m2 : Int) + (n : Int) = (m3 : Int) := by omega
  have bm3 : m3 ≤ 13186539709477700000 := by omega
  have Hw : Hid ((encW (n : Int) (m : Int)).toNat = m3) := hid (by unfold encW; omega)
  have hn1 : 1 ≤ n ∧ n ≤ 8192 ∧ k + 1 + n ≤ 32768 ∧ m ≤ n := by omega
  clear hm1 hm2 hm3 hb b1 b2 b3 b4
  go_enter Tryz.func97, Tryz.ntmps97
  go_upto_region 1 with fail
  (try simp only [hp])
  generalize hw2 : w.alloc _ = w2 at HX ⊢
  clear hw2 hp
  (go_wp2_with fail; refine (HW.out _).mono ?_; rintro e_ w_ ⟨he_, hw_⟩; subst he_; have hs_ := hw_.symm; clear hw_; subst hs_)
  (go_wp2_with fail; refine (HS.out _).mono ?_; rintro e_ w_ ⟨he_, hw_⟩; subst he_; have hs_ := hw_.symm; clear hw_; subst hs_)
  (go_wp2_with fail; refine (HO.out _).mono ?_; rintro e_ w_ ⟨he_, hw_⟩; subst he_; have hs_ := hw_.symm; clear hw_; subst hs_)
  (go_wp2_with fail; refine (HL.out _).mono ?_; rintro e_ w_ ⟨he_, hw_⟩; subst he_; have hs_ := hw_.symm; clear hw_; subst hs_)
  obtain ⟨_, _, _, _, _, c5⟩ := HX.out.md.mm.cells
  have f5 := HX.out.md.mm.m.frozen 5
  have HX2 := hid HX.out.ver
  have vw := ver_wrap E.v
  generalize ((E.v + 1) % 18446744073709551616 : Nat) = v1 at vw HX2
  clear HX
  go_upto_region 11 with fail
  clear c5 f5
  generalize hw3 : World.setCell _ _ _ = w3 at HX2 ⊢
  clear hw3 vw
  obtain ⟨X', W, HTT, H0, hne, HCl⟩ := class_below w3
  have y1 : ∀ z, (W z).cell? ⟨l.m, 0, none⟩ = some (.slice (some ⟨l.w, 0, none⟩) 32768 32768) := fun z => (HX2.out.below (HTT.out z)).md.mm.cells.1
  refine wp_region_class_last W rfl (by kernel_rfl) (by kernel_rfl) (by kernel_rfl) H0.out ?_
  dsimp only [List.dropLast, List.getLast]
  repeat (go_big_quiet_step (with_reducible exact Calls.class_same (HO.out _)))
  refine wpQuiet_nil ?_
  intro z
  have HZ := hid (HX2.out.below (HTT.out z))
  generalize W z = wz at HZ ⊢
  clear y1 H0 HTT HCl hne HX2
  obtain ⟨cv, cz⟩ : ∃ cv, wz.cell? ⟨l.w, k, none⟩ = some cv := ⟨_, HZ.out.md.mm.word hk2⟩
  have fz := HZ.out.md.mm.ws.frozen k
  have HF := hid (HZ.out.step ((MD.start HZ.out.md.mm).putW (i := k) (x := m3) hk2 (by omega)))
  clear HZ
  go_upto_region 13 with fail
  clear cz fz
  generalize hw5 : wz.setCell _ _ = w5 at HF ⊢
  clear hw5 em1 em2 em3 bm1 bm2 bm3
  go_loopw [12] (fun u wr => ∃ q : Nat, u = .int .i64 ((q + 1 : Nat) : Int) ∧ q ≤ n ∧ Hid (MX w l { E.tch with W := zrW (fup E.W k m3) (k + 1) (k + 1 + q) } p wr)) (fun u _ => n + 1 - (intOf u).toNat)
  case atStart => exact ⟨0, rfl, Nat.zero_le _, hid (by rw [zrW_zero]; exact HF.out)⟩
  case round =>
  clear HF
  obtain ⟨q, rfl, hq, HK⟩ := hrel
  obtain ⟨i, hi⟩ : ∃ i, q + 1 = i := ⟨_, rfl⟩
  have Hi := hid hi
  rw [hi]
  by_cases hql : i ≤ n
  · as_aux_lemma =>
    have dq : decide ((i : Int) ≤ (n : Int)) = true := decide_eq_true (by omega)
    obtain ⟨y, hy⟩ : ∃ y, k + i = y := ⟨_, rfl⟩
    have ey : (k : Int) + (i : Int) = (y : Int) := by omega
    have hy2 : y < 32768 := by omega
    have Hy : Hid (k + 1 + q = y) := hid (by omega)
    go_upto_region 15 with fail
    obtain ⟨X', W, HTT, H0, hne, HCl⟩ := class_below wr
    have y1 : ∀ z, (W z).cell? ⟨l.m, 0, none⟩ = some (.slice (some ⟨l.w, 0, none⟩) 32768 32768) := fun z => (HK.out.below (HTT.out z)).md.mm.cells.1
    refine wp_region_class_last W rfl (by kernel_rfl) (by kernel_rfl) (by kernel_rfl) H0.out ?_
    dsimp only [List.dropLast, List.getLast]
    repeat (go_big_quiet_step (with_reducible exact Calls.class_same (HO.out _)))
    refine wpQuiet_nil ?_
    intro z
    have HZ := hid (HK.out.below (HTT.out z))
    generalize W z = wz at HZ ⊢
    clear y1 H0 HTT HCl hne HK
    obtain ⟨cv, cz⟩ : ∃ cv, wz.cell? ⟨l.w, y, none⟩ = some cv := ⟨_, HZ.out.md.mm.word hy2⟩
    have fz := HZ.out.md.mm.ws.frozen y
    have HG : Hid (MX w l { E.tch with W := zrW (fup E.W k m3) (k + 1) (k + 1 + (q + 1)) } p (wz.setCell ⟨l.w, y, none⟩ (.int .u64 0))) := hid (by
      have := HZ.out.step ((MD.start HZ.out.md.mm).putW (i := y) (x := 0) hy2 (by decide))
      rw [show k + 1 + (q + 1) = k + 1 + q + 1 by omega, zrW_step, Hy.out]
      rw [Hy.out] at this
      exact this)
    clear HZ
    go_wp2
    exact ⟨⟨q + 1, by rw [show q + 1 + 1 = i + 1 by omega]; go_num, by omega, HG⟩, by simp [intOf]; omega⟩
  · as_aux_lemma =>
    have dq : decide ((i : Int) ≤ (n : Int)) = false := decide_eq_false (by omega)
    have e0 : q = n := by omega
    subst e0
    go_wp2_with fail
    refine (HA.out _).mono ?_
    rintro e w3 ⟨rfl, hb3⟩
    have HX3 := hid (HK.out.below hb3)
    clear hb3 HK
    go_wp2_with (refine wpList_store_blk rfl 46 _ _ rfl p rfl (rsC 0 0 0) rfl HX3.out.b rfl I0.out (rsC_one _ _ _) ?_; intro w9 HB9 HU9)
    refine bodyPost_ret (results_blk (cs := (rsC 0 0 0)) Tryz.results97 rfl agg_rs HB9.out) rfl ?_
    exact ⟨rfl, hid (by rw [Hw.out]; exact HX3.out.done HU9.out)⟩
end
end Go.Proofs.Qxb6500887aGreat
