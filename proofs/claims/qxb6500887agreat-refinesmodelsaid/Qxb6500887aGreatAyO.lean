/- The model's steps: scrubLines, shift. -/
import Derived.Test.Qxb6500887aGreatAyN
import Derived.Deep.DeepCutAuto
namespace Go.Proofs.Qxb6500887aGreat
open Go.RowKit
set_option linter.unusedSimpArgs false
set_option linter.unusedVariables false
section
variable {l : ML} {E E' : ES} {w w' w0 w3 w4 : World} {p : Nat}
theorem zrW_half (C : Nat → Nat) (lo q : Nat) : zrW C lo (lo + (q + 1 + 1) / 2) = fup (zrW C lo (lo + (q + 1) / 2)) (lo + q / 2) 0 := by
  funext i
  by_cases e : i = lo + q / 2
  · subst e; rw [fup_self]; unfold zrW; rw [if_pos (by omega)]
  · rw [fup_ne _ _ e]; unfold zrW
    by_cases h : lo ≤ i ∧ i < lo + (q + 1) / 2
    · rw [if_pos h, if_pos (by omega)]
    · rw [if_neg h, if_neg (by omega)]
theorem flB_half (K : Nat → Bool) (lo q : Nat) (b : Bool) : flB K lo (lo + (q + 1 + 1) / 2) b = fup (flB K lo (lo + (q + 1) / 2) b) (lo + q / 2) b := by
  funext i
  by_cases e : i = lo + q / 2
  · subst e; rw [fup_self]; unfold flB; rw [if_pos (by omega)]
  · rw [fup_ne _ _ e]; unfold flB
    by_cases h : lo ≤ i ∧ i < lo + (q + 1) / 2
    · rw [if_pos h, if_pos (by omega)]
    · rw [if_neg h, if_neg (by omega)]
/-- Lines k .. k+m-1 wiped. -/
def scrS (E : ES) (k q : Nat) : ES := { E.tch with W := zrW E.W (16 * k) (16 * k + q), G := flB E.G (16 * k) (16 * k + q) false, C := zrW E.C (8 * k) (8 * k + (q + 1) / 2), K := flB E.K (8 * k) (8 * k + (q + 1) / 2) false }
open Classical in
noncomputable def scrE (E : ES) (a n : Int) : Int × ES := if lrC a n = 0 then (if izE E.T a.toNat n.toNat = true then (0, scrS E a.toNat (16 * n.toNat)) else (10, E)) else (lrC a n, E)
set_option maxRecDepth 100000 in
set_option maxHeartbeats 4000000 in
theorem scrM (h : MM l E w) (a n : Int) : Calls Tryz.prog 121 #[.pointer (some ⟨l.m, 0, none⟩), .int .i64 a, .int .i64 n] w fun e w' => e = .returned (.agg (rsC (scrE E a n).1 0 0).toArray) ∧ Hid (MD w l (scrE E a n).2 w') := by
  unfold scrE
  have I0 := hid info_rs
  have HR := hid (fun (c : Int) (wz : World) => refM c wz)
  have HA := hid (fun wz => ansM 0 0 wz)
  have HB := hid (fun wz => blM a wz)
  obtain ⟨p, hp⟩ : ∃ p, w.heap.size = p := ⟨_, rfl⟩
  have HX := hid (MX.start h hp)
  dsimp only [rsC, rsT] at HX
  clear h
  by_cases hc : a < 0 ∨ 2048 ≤ a
  · as_aux_lemma =>
    have e1 : lrC a n = 1 := by unfold lrC; rw [if_neg (by omega)]
    rw [e1, if_neg (by decide)]
    rw [decide_eq_true hc] at HB
    clear hc e1
    go_enter Tryz.func121, Tryz.ntmps121
    go_upto_region 1 with fail
    (try simp only [hp])
    generalize hw2 : w.alloc _ = w2 at HX ⊢
    clear hw2 hp
    (go_wp2_with fail; refine (HB.out _).mono ?_; rintro e_ w_ ⟨he_, hw_⟩; subst he_; have hs_ := hw_.symm; clear hw_; subst hs_)
    go_wp2_with fail
    refine (HR.out 1 _).mono ?_
    rintro e w3 ⟨rfl, hb3⟩
    have HX3 := hid (HX.out.below hb3)
    clear hb3 HX
    go_wp2_with (refine wpList_store_blk rfl 46 _ _ rfl p rfl (rsC 1 0 0) rfl HX3.out.b rfl I0.out (rsC_one _ _ _) ?_; intro w9 HB9 HU9)
    refine bodyPost_ret (results_blk (cs := (rsC 1 0 0)) Tryz.results121 rfl agg_rs HB9.out) rfl ?_
    exact ⟨rfl, hid (HX3.out.done HU9.out)⟩
  rw [decide_eq_false hc] at HB
  have e1 : lrC a n = lenG a n 2048 := by unfold lrC; rw [if_pos (by omega)]
  rw [e1]
  obtain ⟨k, rfl⟩ : ∃ k : Nat, a = (k : Int) := ⟨a.toNat, by omega⟩
  rw [show ((k : Int)).toNat = k by omega]
  have hk : k < 2048 := by omega
  clear hc e1
  have HL := hid (fun wz => ckrM (k : Int) n 2048 (by omega) (by omega) (by omega) wz)
  by_cases hc : lenG (k : Int) n 2048 = 0
  rotate_left
  · as_aux_lemma =>
    rw [if_neg hc]
    generalize lenG (k : Int) n 2048 = c at *
    have dc : (c != 0) = true := by simpa using hc
    have dc' : (c == 0) = false := by simpa using hc
    go_enter Tryz.func121, Tryz.ntmps121
    go_upto_region 1 with fail
    (try simp only [hp])
    generalize hw2 : w.alloc _ = w2 at HX ⊢
    clear hw2 hp
    (go_wp2_with fail; refine (HB.out _).mono ?_; rintro e_ w_ ⟨he_, hw_⟩; subst he_; have hs_ := hw_.symm; clear hw_; subst hs_)
    (go_wp2_with fail; refine (HL.out _).mono ?_; rintro e_ w_ ⟨he_, hw_⟩; subst he_; have hs_ := hw_.symm; clear hw_; subst hs_)
    go_wp2_with fail
    refine (HR.out c _).mono ?_
    rintro e w3 ⟨rfl, hb3⟩
    have HX3 := hid (HX.out.below hb3)
    clear hb3 HX
    go_wp2_with (refine wpList_store_blk rfl 46 _ _ rfl p rfl (rsC c 0 0) rfl HX3.out.b rfl I0.out (rsC_one _ _ _) ?_; intro w9 HB9 HU9)
    refine bodyPost_ret (results_blk (cs := (rsC c 0 0)) Tryz.results121 rfl agg_rs HB9.out) rfl ?_
    exact ⟨rfl, hid (HX3.out.done HU9.out)⟩
  as_aux_lemma =>
  rw [if_pos hc]
  rw [hc] at HL
  have hb := lenG_ok hc
  clear hc
  obtain ⟨m, rfl⟩ : ∃ m : Nat, n = (m : Int) := ⟨n.toNat, by omega⟩
  have hm1 : 1 ≤ m := by omega
  have hm2 : k + m ≤ 2048 := by omega
  rw [show ((m : Int)).toNat = m by omega]
  clear hb

  obtain ⟨R, hR⟩ : ∃ R, (if izE E.T k m = true then ((0 : Int), scrS E k (16 * m)) else (10, E)) = R := ⟨_, rfl⟩
  rw [hR]
  have HRR := hid hR
  clear hR
  obtain ⟨y, hy⟩ : ∃ y, k + m = y := ⟨_, rfl⟩
  have ey : (k : Int) + (m : Int) = (y : Int) := by omega
  have hyb : y ≤ 2048 := by omega
  go_enter Tryz.func121, Tryz.ntmps121
  go_upto_region 1 with fail
  (try simp only [hp])
  generalize hw2 : w.alloc _ = w2 at HX ⊢
  clear hw2 hp
  (go_wp2_with fail; refine (HB.out _).mono ?_; rintro e_ w_ ⟨he_, hw_⟩; subst he_; have hs_ := hw_.symm; clear hw_; subst hs_)
  (go_wp2_with fail; refine (HL.out _).mono ?_; rintro e_ w_ ⟨he_, hw_⟩; subst he_; have hs_ := hw_.symm; clear hw_; subst hs_)
  go_upto_region 7 with fail
  go_loopw [8] (fun u wr => wr = w2 ∧ ∃ q : Nat, u = .int .i64 ((k + q : Nat) : Int) ∧ q ≤ m ∧ Hid (izE E.T k q = true)) (fun u _ => 2049 - (intOf u).toNat)
  case atStart => exact ⟨rfl, 0, rfl, Nat.zero_le _, hid (izE_zero _ _)⟩
  case round =>
  obtain ⟨hwr, q, rfl, hq, HI⟩ := hrel
  have hwr' := hwr.symm
  clear hwr
  subst hwr'
  obtain ⟨i, hi⟩ : ∃ i, k + q = i := ⟨_, rfl⟩
  rw [hi]
  by_cases hql : i < y
  · have dq : decide ((i : Int) < (y : Int)) = true := decide_eq_true (by omega)
    have c4 := HX.out.md.mm.cells.2.2.2.2.1
    have hi2 : i < 2048 := by omega
    have cz := HX.out.md.mm.tally hi2
    obtain ⟨x, hx⟩ : ∃ x, E.T i = x := ⟨_, rfl⟩
    have Hx : Hid (E.T (k + q) = x) := hid (by rw [hi]; exact hx)
    rw [hx] at cz
    clear hx
    by_cases h0 : x = 0
    · as_aux_lemma =>
      have d0 : ((x : Int) != 0) = false := by simp; omega
      have HN : Hid (izE E.T k (q + 1) = true) := hid (by rw [izE_up (by rw [Hx.out]; exact h0)]; exact HI.out)
      clear h0 HI Hx
      go_wp2
      exact ⟨⟨by trivial, q + 1, by rw [show k + (q + 1) = i + 1 by omega]; go_num, by omega, HN⟩, by simp [intOf]; omega⟩
    · as_aux_lemma =>
      have d0 : ((x : Int) != 0) = true := by simp; omega
      have HR2 : Hid (R = (10, E)) := hid (by
        rw [← HRR.out, if_neg]
        intro hz
        exact h0 (by rw [← Hx.out]; exact (izE_iff _ _ _).1 hz (k + q) (by omega) (by omega)))
      clear h0 HI Hx HRR
      go_wp2_with fail
      refine (HR.out 10 _).mono ?_
      rintro e w3 ⟨rfl, hb3⟩
      have HX3 := hid (HX.out.below hb3)
      clear hb3 HX
      go_wp2_with (refine wpList_store_blk rfl 46 _ _ rfl p rfl (rsC 10 0 0) rfl HX3.out.b rfl I0.out (rsC_one _ _ _) ?_; intro w9 HB9 HU9)
      refine bodyPost_ret (results_blk (cs := (rsC 10 0 0)) Tryz.results121 rfl agg_rs HB9.out) rfl ?_
      exact ⟨by rw [HR2.out], hid (by rw [HR2.out]; exact HX3.out.done HU9.out)⟩
  as_aux_lemma =>
  have dq : decide ((i : Int) < (y : Int)) = false := decide_eq_false (by omega)
  have e0 : q = m := by omega
  have HR2 : Hid (R = (0, scrS E k (16 * m))) := hid (by
    rw [← HRR.out, if_pos]
    rw [← e0]; exact HI.out)
  clear HRR HI
  obtain ⟨_, _, _, _, _, c5⟩ := HX.out.md.mm.cells
  have f5 := HX.out.md.mm.m.frozen 5
  have HX2 := hid HX.out.ver
  have vw := ver_wrap E.v
  generalize ((E.v + 1) % 18446744073709551616 : Nat) = v1 at vw HX2
  clear HX
  go_upto_region 12 with fail
  clear c5 f5
  generalize hw3 : World.setCell _ _ _ = w3 at HX2 ⊢
  clear hw3 vw
  clear dq hql e0 hi hq HB HL HR
  obtain ⟨lo, hlo⟩ : ∃ lo, 16 * k = lo := ⟨_, rfl⟩
  obtain ⟨hi, hhi⟩ : ∃ hi, 16 * y = hi := ⟨_, rfl⟩
  have elo : (k : Int) * 16 = (lo : Int) := by omega
  have ehi : (y : Int) * 16 = (hi : Int) := by omega
  have hhb : hi ≤ 32768 := by omega
  go_upto_region 13 with fail
  go_loopw [9] (fun u wr => ∃ q : Nat, u = .int .i64 ((lo + q : Nat) : Int) ∧ q ≤ 16 * m ∧ Hid (MX w l (scrS E k q) p wr)) (fun u _ => 32769 - (intOf u).toNat)
  case atStart => exact ⟨0, rfl, Nat.zero_le _, hid (by
    have : scrS E k 0 = E.tch := by
      unfold scrS
      rw [zrW_zero, flB_zero, show (0 + 1) / 2 = 0 from rfl, zrW_zero, flB_zero]
      rfl
    rw [this]; exact HX2.out)⟩
  case round =>
  clear HX2
  obtain ⟨q, rfl, hq, HK⟩ := hrel
  obtain ⟨i, hi'⟩ : ∃ i, lo + q = i := ⟨_, rfl⟩
  rw [hi']
  by_cases hql : i < hi
  · as_aux_lemma =>
    have dq : decide ((i : Int) < (hi : Int)) = true := decide_eq_true (by omega)
    have hi2 : i < 32768 := by omega
    obtain ⟨g, hg⟩ : ∃ g, i / 2 = g := ⟨_, rfl⟩
    have hg2 : g < 16384 := by omega
    have eg : (i : Int).tdiv 2 = (g : Int) := by rw [Int.tdiv_eq_ediv_of_nonneg (by omega)]; omega
    have eg' : (i : Int) / 2 = (g : Int) := by omega
    have Hi : Hid (16 * k + q = i) := hid (by omega)
    have Hg : Hid (8 * k + q / 2 = g) := hid (by omega)
    have c0 := HK.out.md.mm.cells.1
    obtain ⟨cv, cz⟩ : ∃ cv, wr.cell? ⟨l.w, i, none⟩ = some cv := ⟨_, HK.out.md.mm.word hi2⟩
    have fz := HK.out.md.mm.ws.frozen i
    have HF := hid (HK.out.step ((MD.start HK.out.md.mm).putW (i := i) (x := 0) hi2 (by decide)))
    clear HK
    go_upto_region 16 with fail
    clear c0 cz fz
    generalize hw5 : wr.setCell _ _ = w5 at HF ⊢
    clear hw5
    have c3 := HF.out.md.mm.cells.2.2.2.1
    obtain ⟨cv, cz⟩ : ∃ cv, w5.cell? ⟨l.g, i, none⟩ = some cv := ⟨_, HF.out.md.mm.log hi2⟩
    have fz := HF.out.md.mm.g.frozen i
    have HG := hid (HF.out.step ((MD.start HF.out.md.mm).putG (i := i) (x := false) hi2))
    clear HF
    go_upto_region 17 with fail
    clear c3 cz fz
    generalize hw6 : w5.setCell _ _ = w6 at HG ⊢
    clear hw6
    have c1 := HG.out.md.mm.cells.2.1
    obtain ⟨cv, cz⟩ : ∃ cv, w6.cell? ⟨l.c, g, none⟩ = some cv := ⟨_, HG.out.md.mm.count hg2⟩
    have fz := HG.out.md.mm.c.frozen g
    have HH := hid (HG.out.step ((MD.start HG.out.md.mm).putC (i := g) (x := 0) hg2 (by decide)))
    clear HG
    go_upto_region 18 with fail
    clear c1 cz fz
    generalize hw7 : w6.setCell _ _ = w7 at HH ⊢
    clear hw7
    have c2 := HH.out.md.mm.cells.2.2.1
    obtain ⟨cv, cz⟩ : ∃ cv, w7.cell? ⟨l.k, g, none⟩ = some cv := ⟨_, HH.out.md.mm.mark hg2⟩
    have fz := HH.out.md.mm.k.frozen g
    have HJ : Hid (MX w l (scrS E k (q + 1)) p (w7.setCell ⟨l.k, g, none⟩ (.bool false))) := hid (by
      have := HH.out.step ((MD.start HH.out.md.mm).putK (i := g) (x := false) hg2)
      unfold scrS at this ⊢
      rw [show 16 * k + (q + 1) = 16 * k + q + 1 by omega, zrW_step, flB_step, zrW_half, flB_half, Hi.out, Hg.out]
      rw [Hi.out] at this
      exact this)
    clear HH
    go_wp2
    exact ⟨⟨q + 1, by rw [show lo + (q + 1) = i + 1 by omega]; go_num, by omega, HJ⟩, by simp [intOf]; omega⟩
  · as_aux_lemma =>
    have dq : decide ((i : Int) < (hi : Int)) = false := decide_eq_false (by omega)
    have e0 : q = 16 * m := by omega
    have HX : Hid (MX w l (scrS E k (16 * m)) p wr) := hid (by rw [← e0]; exact HK.out)
    clear HK e0
    go_wp2_with fail
    refine (HA.out _).mono ?_
    rintro e w3 ⟨rfl, hb3⟩
    have HX3 := hid (HX.out.below hb3)
    clear hb3 HX
    go_wp2_with (refine wpList_store_blk rfl 46 _ _ rfl p rfl (rsC 0 0 0) rfl HX3.out.b rfl I0.out (rsC_one _ _ _) ?_; intro w9 HB9 HU9)
    refine bodyPost_ret (results_blk (cs := (rsC 0 0 0)) Tryz.results121 rfl agg_rs HB9.out) rfl ?_
    exact ⟨by rw [HR2.out], hid (by rw [HR2.out]; exact HX3.out.done HU9.out)⟩
end
end Go.Proofs.Qxb6500887aGreat
