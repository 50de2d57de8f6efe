/- The model's steps: isZero, fillLogged, format, erase. -/
import Derived.Test.Qxb6500887aGreatAyF
import Derived.Deep.DeepCutAuto
namespace Go.Proofs.Qxb6500887aGreat
open Go.RowKit
set_option linter.unusedSimpArgs false
set_option linter.unusedVariables false
section
variable {l : ML} {E : ES} {w w' w0 : World} {p : Nat}
open Classical in
/-- All words of the run are 0. -/
noncomputable def izE (W : Nat → Nat) (k n : Nat) : Bool := decide (∀ i, k ≤ i → i < k + n → W i = 0)
theorem izE_iff (W : Nat → Nat) (k n : Nat) : izE W k n = true ↔ ∀ i, k ≤ i → i < k + n → W i = 0 := by unfold izE; exact @decide_eq_true_iff _ (Classical.propDecidable _)
theorem izE_zero (W : Nat → Nat) (k : Nat) : izE W k 0 = true := (izE_iff _ _ _).2 (fun i h1 h2 => by omega)
theorem izE_up {W : Nat → Nat} {k n : Nat} (h : W (k + n) = 0) : izE W k (n + 1) = izE W k n := by
  rw [Bool.eq_iff_iff, izE_iff, izE_iff]
  constructor
  · intro h1 i a b; exact h1 i a (by omega)
  · intro h1 i a b
    by_cases e : i = k + n
    · rw [e]; exact h
    · exact h1 i a (by omega)
theorem izE_no {W : Nat → Nat} {k n : Nat} (h : W (k + n) ≠ 0) : izE W k (n + 1) = false := by
  rw [Bool.eq_false_iff, ne_eq, izE_iff]
  intro h1
  exact h (h1 (k + n) (by omega) (by omega))
theorem lenG_ok {k n lim : Int} (h : lenG k n lim = 0) : 1 ≤ n ∧ n ≤ lim - k := by
  unfold lenG at h
  split at h
  · exact absurd h (by decide)
  · split at h
    · exact absurd h (by decide)
    · omega
/-- A stretch of flags written. -/
def flB (f : Nat → Bool) (lo hi : Nat) (b : Bool) : Nat → Bool := fun i => if lo ≤ i ∧ i < hi then b else f i
theorem flB_zero (f : Nat → Bool) (lo : Nat) (b : Bool) : flB f lo (lo + 0) b = f := by
  funext i; unfold flB; rw [if_neg (by omega)]
theorem flB_step (f : Nat → Bool) (lo j : Nat) (b : Bool) : flB f lo (lo + j + 1) b = fup (flB f lo (lo + j) b) (lo + j) b := by
  funext q
  by_cases e : q = lo + j
  · subst e; rw [fup_self]; unfold flB; rw [if_pos (by omega)]
  · rw [fup_ne _ _ e]; unfold flB
    by_cases h : lo ≤ q ∧ q < lo + j
    · rw [if_pos h, if_pos (by omega)]
    · rw [if_neg h, if_neg (by omega)]
theorem zrW_zero (W : Nat → Nat) (lo : Nat) : zrW W lo (lo + 0) = W := by
  funext i; unfold zrW; rw [if_neg (by omega)]
def fillE (E : ES) (x n : Int) (on : Bool) : Int × ES := if wrCd x n = 0 then (0, { E.tch with G := flB E.G (wIx x) (wIx x + n.toNat) on }) else (wrCd x n, E)
noncomputable def izR (E : ES) (x n : Int) : List Value := if wrCd x n = 0 then rsC 0 ((bitN (izE E.W (wIx x) n.toNat) : Nat) : Int) 0 else rsC (wrCd x n) 0 0
set_option maxRecDepth 100000 in
set_option maxHeartbeats 1000000 in
theorem isZeroM (h : MM l E w) (x n : Int) (hn : -9223372036854775808 ≤ n ∧ n < 9223372036854775808) : Calls Tryz.prog 93 #[.pointer (some ⟨l.m, 0, none⟩), .int .u64 x, .int .i64 n] w fun e w' => e = .returned (.agg (izR E x n).toArray) ∧ Hid (MD w l E w') := by
  unfold izR
  have I0 := hid info_rs
  have HW := hid (fun wz => ckwM x wz)
  have HR := hid (fun (c : Int) (wz : World) => refM c wz)
  have HA := hid (fun wz => ansM 0 0 wz)
  obtain ⟨p, hp⟩ : ∃ p, w.heap.size = p := ⟨_, rfl⟩
  have HX := hid (MX.start h hp)
  dsimp only [rsC, rsT] at HX
  clear h
  by_cases hi : InH x
  rotate_left
  · as_aux_lemma =>
    have e1 : wrCd x n = 1 := by unfold wrCd; rw [if_neg hi]
    rw [e1, if_neg (by decide)]
    have e2 : wantW x = 1 := by unfold wantW; rw [if_neg hi]
    rw [e2] at HW
    clear hi e1 e2
    go_enter Tryz.func93, Tryz.ntmps93
    go_upto_region 1 with fail
    (try simp only [hp])
    generalize hw2 : w.alloc _ = w2 at HX ⊢
    clear hw2 hp
    (go_wp2_with fail; refine (HW.out _).mono ?_; rintro e_ w_ ⟨he_, hw_⟩; subst he_; have hs_ := hw_.symm; clear hw_; subst hs_)
    go_wp2_with fail
    refine (HR.out 1 _).mono ?_
    rintro e w3 ⟨rfl, hb3⟩
    have HX3 := hid (HX.out.below hb3)
    clear hb3 HX
    go_wp2_with (refine wpList_store_blk rfl 46 _ _ rfl p rfl (rsC 1 0 0) rfl HX3.out.b rfl I0.out (rsC_one _ _ _) ?_; intro w9 HB9 HU9)
    refine bodyPost_ret (results_blk (cs := (rsC 1 0 0)) Tryz.results93 rfl agg_rs HB9.out) rfl ?_
    exact ⟨rfl, hid (HX3.out.done HU9.out)⟩
  as_aux_lemma =>
  have e2 : wantW x = 0 := by unfold wantW; rw [if_pos hi]
  rw [e2] at HW
  obtain ⟨k1, k2⟩ := wIx_of hi
  have HO := hid (fun wz => wofM' x hi.1 (by have := hi.2; omega) wz)
  rw [← k1] at HO
  have e1 : wrCd x n = lenG ((wIx x : Nat) : Int) n 32768 := by unfold wrCd lenG lenOut; rw [if_pos hi, k1]
  rw [e1]
  generalize wIx x = k at *
  clear hi e1 e2 k1
  have HL := hid (fun wz => ckrM (k : Int) n 32768 (by omega) (by omega) (by omega) wz)
  by_cases hc : lenG (k : Int) n 32768 = 0
  rotate_left
  · as_aux_lemma =>
    rw [if_neg hc]
    generalize lenG (k : Int) n 32768 = c at *
    have dc : (c != 0) = true := by simpa using hc
    have dc' : (c == 0) = false := by simpa using hc
    go_enter Tryz.func93, Tryz.ntmps93
    go_upto_region 1 with fail
    (try simp only [hp])
    generalize hw2 : w.alloc _ = w2 at HX ⊢
    clear hw2 hp
    (go_wp2_with fail; refine (HW.out _).mono ?_; rintro e_ w_ ⟨he_, hw_⟩; subst he_; have hs_ := hw_.symm; clear hw_; subst hs_)
    (go_wp2_with fail; refine (HO.out _).mono ?_; rintro e_ w_ ⟨he_, hw_⟩; subst he_; have hs_ := hw_.symm; clear hw_; subst hs_)
    (go_wp2_with fail; refine (HL.out _).mono ?_; rintro e_ w_ ⟨he_, hw_⟩; subst he_; have hs_ := hw_.symm; clear hw_; subst hs_)
    go_wp2_with fail
    refine (HR.out c _).mono ?_
    rintro e w3 ⟨rfl, hb3⟩
    have HX3 := hid (HX.out.below hb3)
    clear hb3 HX
    go_wp2_with (refine wpList_store_blk rfl 46 _ _ rfl p rfl (rsC c 0 0) rfl HX3.out.b rfl I0.out (rsC_one _ _ _) ?_; intro w9 HB9 HU9)
    refine bodyPost_ret (results_blk (cs := (rsC c 0 0)) Tryz.results93 rfl agg_rs HB9.out) rfl ?_
    exact ⟨rfl, hid (HX3.out.done HU9.out)⟩
  as_aux_lemma =>
  rw [if_pos hc]
  rw [hc] at HL
  have hb := lenG_ok hc
  clear hc
  obtain ⟨m, rfl⟩ : ∃ m : Nat, n = (m : Int) := ⟨n.toNat, by omega⟩
  have hm1 : 1 ≤ m := by omega
  have hm2 : k + m ≤ 32768 := by omega
  rw [show ((m : Int)).toNat = m by omega]
  clear hb hn
  go_enter Tryz.func93, Tryz.ntmps93
  go_upto_region 1 with fail
  (try simp only [hp])
  generalize hw2 : w.alloc _ = w2 at HX ⊢
  clear hw2 hp
  (go_wp2_with fail; refine (HW.out _).mono ?_; rintro e_ w_ ⟨he_, hw_⟩; subst he_; have hs_ := hw_.symm; clear hw_; subst hs_)
  (go_wp2_with fail; refine (HO.out _).mono ?_; rintro e_ w_ ⟨he_, hw_⟩; subst he_; have hs_ := hw_.symm; clear hw_; subst hs_)
  (go_wp2_with fail; refine (HL.out _).mono ?_; rintro e_ w_ ⟨he_, hw_⟩; subst he_; have hs_ := hw_.symm; clear hw_; subst hs_)
  go_upto_region 9 with fail
  go_loopw [9, 10] (fun t u wr => ∃ q : Nat, u = .int .i64 (q : Int) ∧ t = .bool (izE E.W k q) ∧ q ≤ m ∧ Hid (MX w l E p wr)) (fun _ u _ => m - (intOf u).toNat)
  case atStart => exact ⟨0, rfl, by rw [izE_zero], Nat.zero_le _, HX⟩
  case round =>
  clear HX
  obtain ⟨q, rfl, rfl, hq, HK⟩ := hrel
  by_cases hql : q < m
  · as_aux_lemma =>
    have dq : decide ((q : Int) < (m : Int)) = true := decide_eq_true (by omega)
    obtain ⟨y, hy⟩ : ∃ y, k + q = y := ⟨_, rfl⟩
    have ey : (k : Int) + (q : Int) = (y : Int) := by omega
    have hy2 : y < 32768 := by omega
    obtain ⟨xw, hxw⟩ : ∃ xw, E.W y = xw := ⟨_, rfl⟩
    have Hy := hid hy
    have Hxw := hid hxw
    go_upto_region 11 with fail
    obtain ⟨X', W, HTT, H0, hne, HCl⟩ := class_below wr
    have y1 : ∀ z, (W z).cell? ⟨l.m, 0, none⟩ = some (.slice (some ⟨l.w, 0, none⟩) 32768 32768) := fun z => (HK.out.below (HTT.out z)).md.mm.cells.1
    have y2 : ∀ z, (W z).cell? ⟨l.w, y, none⟩ = some (.int .u64 (xw : Int)) := fun z => by rw [← Hxw.out]; exact (HK.out.below (HTT.out z)).md.mm.word hy2
    clear hy hxw
    refine wp_region_class_lastT W rfl (by kernel_rfl) (by kernel_rfl) (by kernel_rfl) H0.out ?_
    dsimp only [List.dropLast, List.getLast]
    repeat (go_big_quiet_step (with_reducible exact Calls.class_same (HO.out _)))
    refine wpQuiet_nil ?_
    intro z
    have HZ := hid (HK.out.below (HTT.out z))
    generalize W z = wz at HZ ⊢
    clear y1 y2 H0 HTT HCl hne HK
    by_cases h0 : xw = 0
    · as_aux_lemma =>
      have d0 : ((xw : Int) != 0) = false := by simp; omega
      have e0 : Hid (izE E.W k (q + 1) = izE E.W k q) := hid (izE_up (by rw [Hy.out, Hxw.out]; exact h0))
      clear h0
      generalize izE E.W k q = bb at *
      go_wp2
      exact ⟨⟨q + 1, by go_num, by rw [e0.out], by omega, HZ⟩, by simp [intOf]; omega⟩
    · as_aux_lemma =>
      have d0 : ((xw : Int) != 0) = true := by simp; omega
      have e0 : Hid (izE E.W k (q + 1) = false) := hid (izE_no (by rw [Hy.out, Hxw.out]; exact h0))
      clear h0
      generalize izE E.W k q = bb at *
      go_wp2
      exact ⟨⟨q + 1, by go_num, by rw [e0.out], by omega, HZ⟩, by simp [intOf]; omega⟩
  · as_aux_lemma =>
    have dq : decide ((q : Int) < (m : Int)) = false := decide_eq_false (by omega)
    have e0 : q = m := by omega
    have Hbb : Hid (izE E.W k q = izE E.W k m) := hid (by rw [e0])
    generalize izE E.W k q = bb at *
    clear e0
    go_wp2_with fail
    refine (truM bb _).mono ?_
    rintro e w3 ⟨rfl, hb3⟩
    have HX3 := hid (HK.out.below hb3)
    clear hb3 HK
    go_wp2_with (refine wpList_store_blk rfl 46 _ _ rfl p rfl (rsC 0 ((bitN bb : Nat) : Int) 0) rfl HX3.out.b rfl I0.out (rsC_one _ _ _) ?_; intro w9 HB9 HU9)
    refine bodyPost_ret (results_blk (cs := (rsC 0 ((bitN bb : Nat) : Int) 0)) Tryz.results93 rfl agg_rs HB9.out) rfl ?_
    exact ⟨by rw [Hbb.out], hid (HX3.out.done HU9.out)⟩
set_option maxRecDepth 100000 in
set_option maxHeartbeats 1000000 in
theorem fillM (h : MM l E w) (x n : Int) (on : Bool) (hn : -9223372036854775808 ≤ n ∧ n < 9223372036854775808) : Calls Tryz.prog 111 #[.pointer (some ⟨l.m, 0, none⟩), .int .u64 x, .int .i64 n, .bool on] w fun e w' => e = .returned (.agg (rsC (fillE E x n on).1 0 0).toArray) ∧ Hid (MD w l (fillE E x n on).2 w') := by
  unfold fillE
  have I0 := hid info_rs
  have HW := hid (fun wz => ckwM x wz)
  have HR := hid (fun (c : Int) (wz : World) => refM c wz)
  have HA := hid (fun wz => ansM 0 0 wz)
  obtain ⟨p, hp⟩ : ∃ p, w.heap.size = p := ⟨_, rfl⟩
  have HX := hid (MX.start h hp)
  dsimp only [rsC, rsT] at HX
  clear h
  by_cases hi : InH x
  rotate_left
  · as_aux_lemma =>
    have e1 : wrCd x n = 1 := by unfold wrCd; rw [if_neg hi]
    rw [e1, if_neg (by decide)]
    have e2 : wantW x = 1 := by unfold wantW; rw [if_neg hi]
    rw [e2] at HW
    clear hi e1 e2
    go_enter Tryz.func111, Tryz.ntmps111
    go_upto_region 1 with fail
    (try simp only [hp])
    generalize hw2 : w.alloc _ = w2 at HX ⊢
    clear hw2 hp
    (go_wp2_with fail; refine (HW.out _).mono ?_; rintro e_ w_ ⟨he_, hw_⟩; subst he_; have hs_ := hw_.symm; clear hw_; subst hs_)
    go_wp2_with fail
    refine (HR.out 1 _).mono ?_
    rintro e w3 ⟨rfl, hb3⟩
    have HX3 := hid (HX.out.below hb3)
    clear hb3 HX
    go_wp2_with (refine wpList_store_blk rfl 46 _ _ rfl p rfl (rsC 1 0 0) rfl HX3.out.b rfl I0.out (rsC_one _ _ _) ?_; intro w9 HB9 HU9)
    refine bodyPost_ret (results_blk (cs := (rsC 1 0 0)) Tryz.results111 rfl agg_rs HB9.out) rfl ?_
    exact ⟨rfl, hid (HX3.out.done HU9.out)⟩
  as_aux_lemma =>
  have e2 : wantW x = 0 := by unfold wantW; rw [if_pos hi]
  rw [e2] at HW
  obtain ⟨k1, k2⟩ := wIx_of hi
  have HO := hid (fun wz => wofM' x hi.1 (by have := hi.2; omega) wz)
  rw [← k1] at HO
  have e1 : wrCd x n = lenG ((wIx x : Nat) : Int) n 32768 := by unfold wrCd lenG lenOut; rw [if_pos hi, k1]
  rw [e1]
  generalize wIx x = k at *
  clear hi e1 e2 k1
  have HL := hid (fun wz => ckrM (k : Int) n 32768 (by omega) (by omega) (by omega) wz)
  by_cases hc : lenG (k : Int) n 32768 = 0
  rotate_left
  · as_aux_lemma =>
    rw [if_neg hc]
    generalize lenG (k : Int) n 32768 = c at *
    have dc : (c != 0) = true := by simpa using hc
    have dc' : (c == 0) = false := by simpa using hc
    go_enter Tryz.func111, Tryz.ntmps111
    go_upto_region 1 with fail
    (try simp only [hp])
    generalize hw2 : w.alloc _ = w2 at HX ⊢
    clear hw2 hp
    (go_wp2_with fail; refine (HW.out _).mono ?_; rintro e_ w_ ⟨he_, hw_⟩; subst he_; have hs_ := hw_.symm; clear hw_; subst hs_)
    (go_wp2_with fail; refine (HO.out _).mono ?_; rintro e_ w_ ⟨he_, hw_⟩; subst he_; have hs_ := hw_.symm; clear hw_; subst hs_)
    (go_wp2_with fail; refine (HL.out _).mono ?_; rintro e_ w_ ⟨he_, hw_⟩; subst he_; have hs_ := hw_.symm; clear hw_; subst hs_)
    go_wp2_with fail
    refine (HR.out c _).mono ?_
    rintro e w3 ⟨rfl, hb3⟩
    have HX3 := hid (HX.out.below hb3)
    clear hb3 HX
    go_wp2_with (refine wpList_store_blk rfl 46 _ _ rfl p rfl (rsC c 0 0) rfl HX3.out.b rfl I0.out (rsC_one _ _ _) ?_; intro w9 HB9 HU9)
    refine bodyPost_ret (results_blk (cs := (rsC c 0 0)) Tryz.results111 rfl agg_rs HB9.out) rfl ?_
    exact ⟨rfl, hid (HX3.out.done HU9.out)⟩
  as_aux_lemma =>
  rw [if_pos hc]
  rw [hc] at HL
  have hb := lenG_ok hc
  clear hc
  obtain ⟨m, rfl⟩ : ∃ m : Nat, n = (m : Int) := ⟨n.toNat, by omega⟩
  have hm1 : 1 ≤ m := by omega
  have hm2 : k + m ≤ 32768 := by omega
  rw [show ((m : Int)).toNat = m by omega]
  clear hb hn
  go_enter Tryz.func111, Tryz.ntmps111
  go_upto_region 1 with fail
  (try simp only [hp])
  generalize hw2 : w.alloc _ = w2 at HX ⊢
  clear hw2 hp
  (go_wp2_with fail; refine (HW.out _).mono ?_; rintro e_ w_ ⟨he_, hw_⟩; subst he_; have hs_ := hw_.symm; clear hw_; subst hs_)
  (go_wp2_with fail; refine (HO.out _).mono ?_; rintro e_ w_ ⟨he_, hw_⟩; subst he_; have hs_ := hw_.symm; clear hw_; subst hs_)
  (go_wp2_with fail; refine (HL.out _).mono ?_; rintro e_ w_ ⟨he_, hw_⟩; subst he_; have hs_ := hw_.symm; clear hw_; subst hs_)
  obtain ⟨_, _, _, _, _, c5⟩ := HX.out.md.mm.cells
  have f5 := HX.out.md.mm.m.frozen 5
  have HX2 := hid HX.out.ver
  have vw := ver_wrap E.v
  generalize ((E.v + 1) % 18446744073709551616 : Nat) = v1 at vw HX2
  clear HX
  go_upto_region 8 with fail
  clear c5 f5
  generalize hw3 : World.setCell _ _ _ = w3 at HX2 ⊢
  clear hw3 vw
  go_upto_region 9 with fail
  go_loopw [11] (fun u wr => ∃ q : Nat, u = .int .i64 (q : Int) ∧ q ≤ m ∧ Hid (MX w l { E.tch with G := flB E.G k (k + q) on } p wr)) (fun u _ => m - (intOf u).toNat)
  case atStart => exact ⟨0, rfl, Nat.zero_le _, hid (by rw [flB_zero]; exact HX2.out)⟩
  case round =>
  clear HX2
  obtain ⟨q, rfl, hq, HK⟩ := hrel
  by_cases hql : q < m
  · as_aux_lemma =>
    have dq : decide ((q : Int) < (m : Int)) = true := decide_eq_true (by omega)
    obtain ⟨y, hy⟩ : ∃ y, k + q = y := ⟨_, rfl⟩
    have ey : (k : Int) + (q : Int) = (y : Int) := by omega
    have hy2 : y < 32768 := by omega
    have Hy := hid hy
    go_upto_region 11 with fail
    obtain ⟨X', W, HTT, H0, hne, HCl⟩ := class_below wr
    have y1 : ∀ z, (W z).cell? ⟨l.m, 3, none⟩ = some (.slice (some ⟨l.g, 0, none⟩) 32768 32768) := fun z => (HK.out.below (HTT.out z)).md.mm.cells.2.2.2.1
    refine wp_region_class_last W rfl (by kernel_rfl) (by kernel_rfl) (by kernel_rfl) H0.out ?_
    dsimp only [List.dropLast, List.getLast]
    repeat (go_big_quiet_step (with_reducible exact Calls.class_same (HO.out _)))
    refine wpQuiet_nil ?_
    intro z
    have HZ := hid (HK.out.below (HTT.out z))
    generalize W z = wz at HZ ⊢
    clear y1 H0 HTT HCl hne HK
    obtain ⟨cv, cz⟩ : ∃ cv, wz.cell? ⟨l.g, y, none⟩ = some cv := ⟨_, HZ.out.md.mm.log hy2⟩
    have fz := HZ.out.md.mm.g.frozen y
    have HF : Hid (MX w l { E.tch with G := flB E.G k (k + (q + 1)) on } p (wz.setCell ⟨l.g, y, none⟩ (.bool on))) := hid (by
      have := HZ.out.step ((MD.start HZ.out.md.mm).putG (i := k + q) (x := on) (by rw [Hy.out]; exact hy2))
      rw [Hy.out] at this
      rw [show k + (q + 1) = k + q + 1 by omega, flB_step, Hy.out]
      exact this)
    clear HZ
    go_wp2
    exact ⟨⟨q + 1, by go_num, by omega, HF⟩, by simp [intOf]; omega⟩
  · as_aux_lemma =>
    have dq : decide ((q : Int) < (m : Int)) = false := decide_eq_false (by omega)
    have e0 : q = m := by omega
    subst e0
    go_wp2_with fail
    refine (HA.out _).mono ?_
    rintro e w3 ⟨rfl, hb3⟩
    have HX3 := hid (HK.out.below hb3)
    clear hb3 HK
    go_wp2_with (refine wpList_store_blk rfl 46 _ _ rfl p rfl (rsC 0 0 0) rfl HX3.out.b rfl I0.out (rsC_one _ _ _) ?_; intro w9 HB9 HU9)
    refine bodyPost_ret (results_blk (cs := (rsC 0 0 0)) Tryz.results111 rfl agg_rs HB9.out) rfl ?_
    exact ⟨rfl, hid (HX3.out.done HU9.out)⟩
end
end Go.Proofs.Qxb6500887aGreat
