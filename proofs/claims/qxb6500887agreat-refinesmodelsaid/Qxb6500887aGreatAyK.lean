/- The model's steps that take an operation: field, data. -/
import Derived.Test.Qxb6500887aGreatAyJ
import Derived.Deep.DeepCutAuto
namespace Go.Proofs.Qxb6500887aGreat
open Go.RowKit
set_option linter.unusedSimpArgs false
set_option linter.unusedVariables false
section
variable {l : ML} {E E' : ES} {w w' w0 w3 w4 : World} {o p r : Nat} {oc rs : List Value}
def fdE (W : Nat → Nat) (a i : Int) : Int := if onE W a = 0 then (if 0 ≤ i ∧ i < decRefs (W (2 * gIx a)) then 0 else 8) else onE W a
def fdAt (a i : Int) : Nat := 2 * gIx a + 1 + i.toNat
def dtE (W : Nat → Nat) (a i : Int) : Int := if onE W a = 0 then (if 0 ≤ i ∧ i < decSize (W (2 * gIx a)) - decRefs (W (2 * gIx a)) then 0 else 8) else onE W a
def dtAt (W : Nat → Nat) (a i : Int) : Nat := 2 * gIx a + 1 + (decRefs (W (2 * gIx a))).toNat + i.toNat
theorem fdE_ok {W : Nat → Nat} {a i : Int} (h : fdE W a i = 0) : onE W a = 0 ∧ 0 ≤ i ∧ i < decRefs (W (2 * gIx a)) := by
  unfold fdE at h
  by_cases h1 : onE W a = 0
  · rw [if_pos h1] at h
    split at h
    · rename_i hx; exact ⟨h1, hx.1, hx.2⟩
    · exact absurd h (by decide)
  · rw [if_neg h1] at h; exact absurd h h1
theorem dtE_ok {W : Nat → Nat} {a i : Int} (h : dtE W a i = 0) : onE W a = 0 ∧ 0 ≤ i ∧ i < decSize (W (2 * gIx a)) - decRefs (W (2 * gIx a)) := by
  unfold dtE at h
  by_cases h1 : onE W a = 0
  · rw [if_pos h1] at h
    split at h
    · rename_i hx; exact ⟨h1, hx.1, hx.2⟩
    · exact absurd h (by decide)
  · rw [if_neg h1] at h; exact absurd h h1
theorem nbI_in (b : Int) (hb : U64 b) : -9223372036854775808 ≤ nbI b ∧ nbI b < 9223372036854775808 := by
  unfold U64 at hb
  unfold nbI wrap64
  omega
set_option maxRecDepth 100000 in
set_option maxHeartbeats 1000000 in
theorem field9 (h : MM l E w) (a b c : Int) (ha : U64 a) (hb : U64 b) (hc : U64 c) : Calls Tryz.prog 100 #[.pointer (some ⟨l.m, 0, none⟩), .agg #[.int .u8 9, .int .u64 a, .int .u64 b, .int .u64 c]] w fun e w' => e = .returned (.agg (rsG (fdE E.W a (nbI b)) ((65536 + fdAt a (nbI b) : Nat) : Int) 0).toArray) ∧ Hid (MD w l E w') := by
  have I0 := hid info_rs
  have HR := hid (fun (cd : Int) (wz : World) => refM cd wz)
  have HA := hid (fun wz => ansM 0 0 wz)
  obtain ⟨o, ho⟩ : ∃ o, w.heap.size = o := ⟨_, rfl⟩
  obtain ⟨p, hp⟩ : ∃ p, o + 1 = p := ⟨_, rfl⟩
  have HX : Hid (MP w l E o p [.int .u8 9, .int .u64 a, .int .u64 b, .int .u64 c] ((w.alloc (.cells #[.int .u8 9, .int .u64 a, .int .u64 b, .int .u64 c] 31)).alloc (.cells #[.int .u8 0, .int .u64 0, .int .u64 0, .string { data := #[] }, .int .i64 0, .int .i64 0, .int .i64 0, .int .i64 0, .int .i64 0, .int .i64 0, .int .i64 0, .int .i64 0, .int .i64 0, .int .i64 0, .int .i64 0, .int .i64 0, .int .i64 0, .int .i64 0, .int .i64 0, .int .i64 0, .int .u8 0, .int .i64 0, .int .i64 0, .int .i64 0, .int .i64 0, .int .i64 0, .int .i64 0, .int .i64 0, .int .i64 0, .int .i64 0, .int .i64 0, .int .i64 0, .int .i64 0, .int .i64 0, .int .i64 0] 46))) := hid (MP.start h ho hp)
  clear h
  obtain ⟨i, hbi⟩ : ∃ i, nbI b = i := ⟨_, rfl⟩
  have HN : Hid (∀ wz, Calls Tryz.prog 92 #[.int .u64 b] wz fun e w' => e = .returned (.int .i64 i) ∧ w' = wz) := hid (fun wz => by rw [← hbi]; exact numM b hb wz)
  have hib : -9223372036854775808 ≤ i ∧ i < 9223372036854775808 := by rw [← hbi]; exact nbI_in b hb
  rw [hbi]
  clear hbi
  have HP := hid (fun wz (hz : MM l E wz) => opM hz a)
  unfold owR at HP
  by_cases hz : onE E.W a = 0
  rotate_left
  · as_aux_lemma =>
    have e1 : fdE E.W a i = onE E.W a := by unfold fdE; rw [if_neg hz]
    rw [e1]
    rw [if_neg hz] at HP
    clear e1
    rw [rsG_bad hz]
    generalize onE E.W a = cd at *
    have dc : (cd != 0) = true := by simpa using hz
    have dc' : (cd == 0) = false := by simpa using hz
    go_enter Tryz.func100, Tryz.ntmps100
    go_upto_region 1 with fail
    (try simp only [World.size_alloc, ho, hp])
    generalize hw2 : World.alloc (w.alloc _) _ = w2 at HX ⊢
    clear hw2 ho hp
    obtain ⟨o0, o1, o2, o3⟩ := HX.out.cells
    (go_wp2_with fail; refine (HP.out _ HX.out.mx.md.mm).mono ?_; rintro e_ w_ ⟨he_, hw_⟩; subst he_; have hs_ := hw_.symm; clear hw_; subst hs_)
    go_wp2_with fail
    refine (HR.out cd _).mono ?_
    rintro e w3 ⟨rfl, hb3⟩
    have HX3 := hid (HX.out.below hb3)
    clear hb3 HX o0 o1 o2 o3
    go_wp2_with (refine wpList_store_blk rfl 46 _ _ rfl p rfl (rsC cd 0 0) rfl HX3.out.mx.b rfl I0.out (rsC_one _ _ _) ?_; intro w9 HB9 HU9)
    refine bodyPost_ret (results_blk (cs := (rsC cd 0 0)) Tryz.results100 rfl agg_rs HB9.out) rfl ?_
    exact ⟨rfl, hid (HX3.out.done HU9.out)⟩
  rw [if_pos hz] at HP
  obtain ⟨b0, b1, b2, b3, b4, b5, b6⟩ := onE_ok hz
  by_cases hy : fdE E.W a i = 0
  rotate_left
  · as_aux_lemma =>
    have e1 : fdE E.W a i = 8 := by
      unfold fdE at hy ⊢
      rw [if_pos hz] at hy ⊢
      split at hy
      · exact absurd rfl hy
      · rename_i hx; rw [if_neg hx]
    have hx : ¬ (0 ≤ i ∧ i < decRefs (E.W (2 * gIx a))) := by
      intro hx
      apply hy
      unfold fdE
      rw [if_pos hz, if_pos hx]
    have hz : fdE E.W a i ≠ 0 := hy
    rw [rsG_bad hz]
    rw [e1]
    clear hz e1 hy
    generalize decSize (E.W (2 * gIx a)) = sz at *
    generalize decRefs (E.W (2 * gIx a)) = rf at *
    generalize 2 * gIx a = k at *
    by_cases h1 : i < 0
    · have d1 : decide (i < 0) = true := decide_eq_true h1
      go_enter Tryz.func100, Tryz.ntmps100
      go_upto_region 1 with fail
      (try simp only [World.size_alloc, ho, hp])
      generalize hw2 : World.alloc (w.alloc _) _ = w2 at HX ⊢
      clear hw2 ho hp
      obtain ⟨o0, o1, o2, o3⟩ := HX.out.cells
      (go_wp2_with fail; refine (HP.out _ HX.out.mx.md.mm).mono ?_; rintro e_ w_ ⟨he_, hw_⟩; subst he_; have hs_ := hw_.symm; clear hw_; subst hs_)
      (go_wp2_with fail; refine (HN.out _).mono ?_; rintro e_ w_ ⟨he_, hw_⟩; subst he_; have hs_ := hw_.symm; clear hw_; subst hs_)
      go_wp2_with fail
      refine (HR.out 8 _).mono ?_
      rintro e w3 ⟨rfl, hb3⟩
      have HX3 := hid (HX.out.below hb3)
      clear hb3 HX o0 o1 o2 o3
      go_wp2_with (refine wpList_store_blk rfl 46 _ _ rfl p rfl (rsC 8 0 0) rfl HX3.out.mx.b rfl I0.out (rsC_one _ _ _) ?_; intro w9 HB9 HU9)
      refine bodyPost_ret (results_blk (cs := (rsC 8 0 0)) Tryz.results100 rfl agg_rs HB9.out) rfl ?_
      exact ⟨rfl, hid (HX3.out.done HU9.out)⟩
    · have d1 : decide (i < 0) = false := decide_eq_false h1
      have h2 : rf ≤ i := by omega
      have d2 : decide (i ≥ rf) = true := decide_eq_true h2
      have d2' : decide (rf ≤ i) = true := decide_eq_true h2
      go_enter Tryz.func100, Tryz.ntmps100
      go_upto_region 1 with fail
      (try simp only [World.size_alloc, ho, hp])
      generalize hw2 : World.alloc (w.alloc _) _ = w2 at HX ⊢
      clear hw2 ho hp
      obtain ⟨o0, o1, o2, o3⟩ := HX.out.cells
      (go_wp2_with fail; refine (HP.out _ HX.out.mx.md.mm).mono ?_; rintro e_ w_ ⟨he_, hw_⟩; subst he_; have hs_ := hw_.symm; clear hw_; subst hs_)
      (go_wp2_with fail; refine (HN.out _).mono ?_; rintro e_ w_ ⟨he_, hw_⟩; subst he_; have hs_ := hw_.symm; clear hw_; subst hs_)
      go_wp2_with fail
      refine (HR.out 8 _).mono ?_
      rintro e w3 ⟨rfl, hb3⟩
      have HX3 := hid (HX.out.below hb3)
      clear hb3 HX o0 o1 o2 o3
      go_wp2_with (refine wpList_store_blk rfl 46 _ _ rfl p rfl (rsC 8 0 0) rfl HX3.out.mx.b rfl I0.out (rsC_one _ _ _) ?_; intro w9 HB9 HU9)
      refine bodyPost_ret (results_blk (cs := (rsC 8 0 0)) Tryz.results100 rfl agg_rs HB9.out) rfl ?_
      exact ⟨rfl, hid (HX3.out.done HU9.out)⟩
  as_aux_lemma =>
  obtain ⟨_, x1, x2⟩ := fdE_ok hy
  obtain ⟨t, ht⟩ : ∃ t, fdAt a i = t := ⟨_, rfl⟩
  obtain ⟨i, rfl⟩ : ∃ n : Nat, i = (n : Int) := ⟨i.toNat, by omega⟩
  rw [hy, ht]
  rw [show rsG 0 ((65536 + t : Nat) : Int) 0 = rsC 0 ((65536 + t : Nat) : Int) 0 from rfl]
  have ht2 := ht
  unfold fdAt at ht2
  clear ht hy hz b0 b1
  generalize decSize (E.W (2 * gIx a)) = sz at *
  generalize decRefs (E.W (2 * gIx a)) = rf at *
  generalize 2 * gIx a = k at *
  have d2 : decide ((i : Int) ≥ rf) = false := decide_eq_false (by omega)
  have d2' : decide (rf ≤ (i : Int)) = false := decide_eq_false (by omega)
  have et : (k : Int) + 1 + (i : Int) = (t : Int) := by omega
  have d1 : decide ((i : Int) < 0) = false := decide_eq_false (by omega)
  have htb : t < 32768 := by omega
  clear ht2
  have HAd := hid (fun wz => adrM t (by omega) wz)
  generalize 65536 + t = y at *
  go_enter Tryz.func100, Tryz.ntmps100
  go_upto_region 1 with fail
  (try simp only [World.size_alloc, ho, hp])
  generalize hw2 : World.alloc (w.alloc _) _ = w2 at HX ⊢
  clear hw2 ho hp
  obtain ⟨o0, o1, o2, o3⟩ := HX.out.cells
  (go_wp2_with fail; refine (HP.out _ HX.out.mx.md.mm).mono ?_; rintro e_ w_ ⟨he_, hw_⟩; subst he_; have hs_ := hw_.symm; clear hw_; subst hs_)
  (go_wp2_with fail; refine (HN.out _).mono ?_; rintro e_ w_ ⟨he_, hw_⟩; subst he_; have hs_ := hw_.symm; clear hw_; subst hs_)

  (go_wp2_with fail; refine (HAd.out _).mono ?_; rintro e_ w_ ⟨he_, hw_⟩; subst he_; have hs_ := hw_.symm; clear hw_; subst hs_)
  go_wp2_with fail
  refine (ansM (y : Int) 0 _).mono ?_
  rintro e w3 ⟨rfl, hb3⟩
  have HX3 := hid (HX.out.below hb3)
  clear hb3 HX o0 o1 o2 o3
  go_wp2_with (refine wpList_store_blk rfl 46 _ _ rfl p rfl (rsC 0 (y : Int) 0) rfl HX3.out.mx.b rfl I0.out (rsC_one _ _ _) ?_; intro w9 HB9 HU9)
  refine bodyPost_ret (results_blk (cs := (rsC 0 (y : Int) 0)) Tryz.results100 rfl agg_rs HB9.out) rfl ?_
  exact ⟨rfl, hid (HX3.out.done HU9.out)⟩
def ldRefE (E : ES) (a i : Int) : List Value := if fdE E.W a i = 0 then (if rfOk (E.W (fdAt a i)) then rsC 0 ((E.W (fdAt a i) : Nat) : Int) 0 else rsC 9 0 0) else rsC (fdE E.W a i) 0 0
set_option maxRecDepth 100000 in
set_option maxHeartbeats 1000000 in
theorem field11 (h : MM l E w) (a b c : Int) (ha : U64 a) (hb : U64 b) (hc : U64 c) : Calls Tryz.prog 100 #[.pointer (some ⟨l.m, 0, none⟩), .agg #[.int .u8 11, .int .u64 a, .int .u64 b, .int .u64 c]] w fun e w' => e = .returned (.agg (ldRefE E a (nbI b)).toArray) ∧ Hid (MD w l E w') := by
  have I0 := hid info_rs
  have HR := hid (fun (cd : Int) (wz : World) => refM cd wz)
  have HA := hid (fun wz => ansM 0 0 wz)
  obtain ⟨o, ho⟩ : ∃ o, w.heap.size = o := ⟨_, rfl⟩
  obtain ⟨p, hp⟩ : ∃ p, o + 1 = p := ⟨_, rfl⟩
  have HX : Hid (MP w l E o p [.int .u8 11, .int .u64 a, .int .u64 b, .int .u64 c] ((w.alloc (.cells #[.int .u8 11, .int .u64 a, .int .u64 b, .int .u64 c] 31)).alloc (.cells #[.int .u8 0, .int .u64 0, .int .u64 0, .string { data := #[] }, .int .i64 0, .int .i64 0, .int .i64 0, .int .i64 0, .int .i64 0, .int .i64 0, .int .i64 0, .int .i64 0, .int .i64 0, .int .i64 0, .int .i64 0, .int .i64 0, .int .i64 0, .int .i64 0, .int .i64 0, .int .i64 0, .int .u8 0, .int .i64 0, .int .i64 0, .int .i64 0, .int .i64 0, .int .i64 0, .int .i64 0, .int .i64 0, .int .i64 0, .int .i64 0, .int .i64 0, .int .i64 0, .int .i64 0, .int .i64 0, .int .i64 0] 46))) := hid (MP.start h ho hp)
  clear h
  unfold ldRefE
  obtain ⟨i, hbi⟩ : ∃ i, nbI b = i := ⟨_, rfl⟩
  have HN : Hid (∀ wz, Calls Tryz.prog 92 #[.int .u64 b] wz fun e w' => e = .returned (.int .i64 i) ∧ w' = wz) := hid (fun wz => by rw [← hbi]; exact numM b hb wz)
  have hib : -9223372036854775808 ≤ i ∧ i < 9223372036854775808 := by rw [← hbi]; exact nbI_in b hb
  rw [hbi]
  clear hbi
  have HP := hid (fun wz (hz : MM l E wz) => opM hz a)
  unfold owR at HP
  by_cases hz : onE E.W a = 0
  rotate_left
  · as_aux_lemma =>
    have e1 : fdE E.W a i = onE E.W a := by unfold fdE; rw [if_neg hz]
    rw [e1]
    rw [if_neg hz] at HP
    clear e1
    rw [if_neg hz]
    generalize onE E.W a = cd at *
    have dc : (cd != 0) = true := by simpa using hz
    have dc' : (cd == 0) = false := by simpa using hz
    go_enter Tryz.func100, Tryz.ntmps100
    go_upto_region 1 with fail
    (try simp only [World.size_alloc, ho, hp])
    generalize hw2 : World.alloc (w.alloc _) _ = w2 at HX ⊢
    clear hw2 ho hp
    obtain ⟨o0, o1, o2, o3⟩ := HX.out.cells
    (go_wp2_with fail; refine (HP.out _ HX.out.mx.md.mm).mono ?_; rintro e_ w_ ⟨he_, hw_⟩; subst he_; have hs_ := hw_.symm; clear hw_; subst hs_)
    go_wp2_with fail
    refine (HR.out cd _).mono ?_
    rintro e w3 ⟨rfl, hb3⟩
    have HX3 := hid (HX.out.below hb3)
    clear hb3 HX o0 o1 o2 o3
    go_wp2_with (refine wpList_store_blk rfl 46 _ _ rfl p rfl (rsC cd 0 0) rfl HX3.out.mx.b rfl I0.out (rsC_one _ _ _) ?_; intro w9 HB9 HU9)
    refine bodyPost_ret (results_blk (cs := (rsC cd 0 0)) Tryz.results100 rfl agg_rs HB9.out) rfl ?_
    exact ⟨rfl, hid (HX3.out.done HU9.out)⟩
  rw [if_pos hz] at HP
  obtain ⟨b0, b1, b2, b3, b4, b5, b6⟩ := onE_ok hz
  by_cases hy : fdE E.W a i = 0
  rotate_left
  · as_aux_lemma =>
    have e1 : fdE E.W a i = 8 := by
      unfold fdE at hy ⊢
      rw [if_pos hz] at hy ⊢
      split at hy
      · exact absurd rfl hy
      · rename_i hx; rw [if_neg hx]
    have hx : ¬ (0 ≤ i ∧ i < decRefs (E.W (2 * gIx a))) := by
      intro hx
      apply hy
      unfold fdE
      rw [if_pos hz, if_pos hx]
    have hz : fdE E.W a i ≠ 0 := hy
    rw [if_neg hz]
    rw [e1]
    clear hz e1 hy
    generalize decSize (E.W (2 * gIx a)) = sz at *
    generalize decRefs (E.W (2 * gIx a)) = rf at *
    generalize 2 * gIx a = k at *
    by_cases h1 : i < 0
    · have d1 : decide (i < 0) = true := decide_eq_true h1
      go_enter Tryz.func100, Tryz.ntmps100
      go_upto_region 1 with fail
      (try simp only [World.size_alloc, ho, hp])
      generalize hw2 : World.alloc (w.alloc _) _ = w2 at HX ⊢
      clear hw2 ho hp
      obtain ⟨o0, o1, o2, o3⟩ := HX.out.cells
      (go_wp2_with fail; refine (HP.out _ HX.out.mx.md.mm).mono ?_; rintro e_ w_ ⟨he_, hw_⟩; subst he_; have hs_ := hw_.symm; clear hw_; subst hs_)
      (go_wp2_with fail; refine (HN.out _).mono ?_; rintro e_ w_ ⟨he_, hw_⟩; subst he_; have hs_ := hw_.symm; clear hw_; subst hs_)
      go_wp2_with fail
      refine (HR.out 8 _).mono ?_
      rintro e w3 ⟨rfl, hb3⟩
      have HX3 := hid (HX.out.below hb3)
      clear hb3 HX o0 o1 o2 o3
      go_wp2_with (refine wpList_store_blk rfl 46 _ _ rfl p rfl (rsC 8 0 0) rfl HX3.out.mx.b rfl I0.out (rsC_one _ _ _) ?_; intro w9 HB9 HU9)
      refine bodyPost_ret (results_blk (cs := (rsC 8 0 0)) Tryz.results100 rfl agg_rs HB9.out) rfl ?_
      exact ⟨rfl, hid (HX3.out.done HU9.out)⟩
    · have d1 : decide (i < 0) = false := decide_eq_false h1
      have h2 : rf ≤ i := by omega
      have d2 : decide (i ≥ rf) = true := decide_eq_true h2
      have d2' : decide (rf ≤ i) = true := decide_eq_true h2
      go_enter Tryz.func100, Tryz.ntmps100
      go_upto_region 1 with fail
      (try simp only [World.size_alloc, ho, hp])
      generalize hw2 : World.alloc (w.alloc _) _ = w2 at HX ⊢
      clear hw2 ho hp
      obtain ⟨o0, o1, o2, o3⟩ := HX.out.cells
      (go_wp2_with fail; refine (HP.out _ HX.out.mx.md.mm).mono ?_; rintro e_ w_ ⟨he_, hw_⟩; subst he_; have hs_ := hw_.symm; clear hw_; subst hs_)
      (go_wp2_with fail; refine (HN.out _).mono ?_; rintro e_ w_ ⟨he_, hw_⟩; subst he_; have hs_ := hw_.symm; clear hw_; subst hs_)
      go_wp2_with fail
      refine (HR.out 8 _).mono ?_
      rintro e w3 ⟨rfl, hb3⟩
      have HX3 := hid (HX.out.below hb3)
      clear hb3 HX o0 o1 o2 o3
      go_wp2_with (refine wpList_store_blk rfl 46 _ _ rfl p rfl (rsC 8 0 0) rfl HX3.out.mx.b rfl I0.out (rsC_one _ _ _) ?_; intro w9 HB9 HU9)
      refine bodyPost_ret (results_blk (cs := (rsC 8 0 0)) Tryz.results100 rfl agg_rs HB9.out) rfl ?_
      exact ⟨rfl, hid (HX3.out.done HU9.out)⟩
  as_aux_lemma =>
  obtain ⟨_, x1, x2⟩ := fdE_ok hy
  obtain ⟨t, ht⟩ : ∃ t, fdAt a i = t := ⟨_, rfl⟩
  obtain ⟨i, rfl⟩ : ∃ n : Nat, i = (n : Int) := ⟨i.toNat, by omega⟩
  rw [if_pos hy, ht]
  have ht2 := ht
  unfold fdAt at ht2
  clear ht hy hz b0 b1
  generalize decSize (E.W (2 * gIx a)) = sz at *
  generalize decRefs (E.W (2 * gIx a)) = rf at *
  generalize 2 * gIx a = k at *
  have d2 : decide ((i : Int) ≥ rf) = false := decide_eq_false (by omega)
  have d2' : decide (rf ≤ (i : Int)) = false := decide_eq_false (by omega)
  have et : (k : Int) + 1 + (i : Int) = (t : Int) := by omega
  have d1 : decide ((i : Int) < 0) = false := decide_eq_false (by omega)
  have htb : t < 32768 := by omega
  clear ht2
  obtain ⟨x, hx⟩ : ∃ x, E.W t = x := ⟨_, rfl⟩
  rw [hx]
  have HI := hid (fun wz => refOkM (x : Int) wz)
  by_cases hr : rfOk (x : Int)
  · as_aux_lemma =>
    rw [decide_eq_true hr] at HI
    rw [if_pos hr]
    clear hr
    go_enter Tryz.func100, Tryz.ntmps100
    go_upto_region 1 with fail
    (try simp only [World.size_alloc, ho, hp])
    generalize hw2 : World.alloc (w.alloc _) _ = w2 at HX ⊢
    clear hw2 ho hp
    obtain ⟨o0, o1, o2, o3⟩ := HX.out.cells
    (go_wp2_with fail; refine (HP.out _ HX.out.mx.md.mm).mono ?_; rintro e_ w_ ⟨he_, hw_⟩; subst he_; have hs_ := hw_.symm; clear hw_; subst hs_)
    (go_wp2_with fail; refine (HN.out _).mono ?_; rintro e_ w_ ⟨he_, hw_⟩; subst he_; have hs_ := hw_.symm; clear hw_; subst hs_)
    have c0 := HX.out.mx.md.mm.cells.1
    have cz := HX.out.mx.md.mm.word htb
    rw [hx] at cz
    clear hx
    (go_wp2_with fail; refine (HI.out _).mono ?_; rintro e_ w_ ⟨he_, hw_⟩; subst he_; have hs_ := hw_.symm; clear hw_; subst hs_)
    go_wp2_with fail
    refine (ansM (x : Int) 0 _).mono ?_
    rintro e w3 ⟨rfl, hb3⟩
    have HX3 := hid (HX.out.below hb3)
    clear hb3 HX o0 o1 o2 o3
    go_wp2_with (refine wpList_store_blk rfl 46 _ _ rfl p rfl (rsC 0 (x : Int) 0) rfl HX3.out.mx.b rfl I0.out (rsC_one _ _ _) ?_; intro w9 HB9 HU9)
    refine bodyPost_ret (results_blk (cs := (rsC 0 (x : Int) 0)) Tryz.results100 rfl agg_rs HB9.out) rfl ?_
    exact ⟨rfl, hid (HX3.out.done HU9.out)⟩
  · as_aux_lemma =>
    rw [decide_eq_false hr] at HI
    rw [if_neg hr]
    clear hr
    go_enter Tryz.func100, Tryz.ntmps100
    go_upto_region 1 with fail
    (try simp only [World.size_alloc, ho, hp])
    generalize hw2 : World.alloc (w.alloc _) _ = w2 at HX ⊢
    clear hw2 ho hp
    obtain ⟨o0, o1, o2, o3⟩ := HX.out.cells
    (go_wp2_with fail; refine (HP.out _ HX.out.mx.md.mm).mono ?_; rintro e_ w_ ⟨he_, hw_⟩; subst he_; have hs_ := hw_.symm; clear hw_; subst hs_)
    (go_wp2_with fail; refine (HN.out _).mono ?_; rintro e_ w_ ⟨he_, hw_⟩; subst he_; have hs_ := hw_.symm; clear hw_; subst hs_)
    have c0 := HX.out.mx.md.mm.cells.1
    have cz := HX.out.mx.md.mm.word htb
    rw [hx] at cz
    clear hx
    (go_wp2_with fail; refine (HI.out _).mono ?_; rintro e_ w_ ⟨he_, hw_⟩; subst he_; have hs_ := hw_.symm; clear hw_; subst hs_)
    go_wp2_with fail
    refine (HR.out 9 _).mono ?_
    rintro e w3 ⟨rfl, hb3⟩
    have HX3 := hid (HX.out.below hb3)
    clear hb3 HX o0 o1 o2 o3
    go_wp2_with (refine wpList_store_blk rfl 46 _ _ rfl p rfl (rsC 9 0 0) rfl HX3.out.mx.b rfl I0.out (rsC_one _ _ _) ?_; intro w9 HB9 HU9)
    refine bodyPost_ret (results_blk (cs := (rsC 9 0 0)) Tryz.results100 rfl agg_rs HB9.out) rfl ?_
    exact ⟨rfl, hid (HX3.out.done HU9.out)⟩
def stRefE (E : ES) (a i c : Int) : Int × ES := if fdE E.W a i = 0 then (if rfOk c then (0, { E.tch with W := fup E.W (fdAt a i) c.toNat }) else (9, E)) else (fdE E.W a i, E)
set_option maxRecDepth 100000 in
set_option maxHeartbeats 1000000 in
theorem field12 (h : MM l E w) (a b c : Int) (ha : U64 a) (hb : U64 b) (hc : U64 c) : Calls Tryz.prog 100 #[.pointer (some ⟨l.m, 0, none⟩), .agg #[.int .u8 12, .int .u64 a, .int .u64 b, .int .u64 c]] w fun e w' => e = .returned (.agg (rsC (stRefE E a (nbI b) c).1 0 0).toArray) ∧ Hid (MD w l (stRefE E a (nbI b) c).2 w') := by
  have I0 := hid info_rs
  have HR := hid (fun (cd : Int) (wz : World) => refM cd wz)
  have HA := hid (fun wz => ansM 0 0 wz)
  obtain ⟨o, ho⟩ : ∃ o, w.heap.size = o := ⟨_, rfl⟩
  obtain ⟨p, hp⟩ : ∃ p, o + 1 = p := ⟨_, rfl⟩
  have HX : Hid (MP w l E o p [.int .u8 12, .int .u64 a, .int .u64 b, .int .u64 c] ((w.alloc (.cells #[.int .u8 12, .int .u64 a, .int .u64 b, .int .u64 c] 31)).alloc (.cells #[.int .u8 0, .int .u64 0, .int .u64 0, .string { data := #[] }, .int .i64 0, .int .i64 0, .int .i64 0, .int .i64 0, .int .i64 0, .int .i64 0, .int .i64 0, .int .i64 0, .int .i64 0, .int .i64 0, .int .i64 0, .int .i64 0, .int .i64 0, .int .i64 0, .int .i64 0, .int .i64 0, .int .u8 0, .int .i64 0, .int .i64 0, .int .i64 0, .int .i64 0, .int .i64 0, .int .i64 0, .int .i64 0, .int .i64 0, .int .i64 0, .int .i64 0, .int .i64 0, .int .i64 0, .int .i64 0, .int .i64 0] 46))) := hid (MP.start h ho hp)
  clear h
  unfold stRefE
  obtain ⟨i, hbi⟩ : ∃ i, nbI b = i := ⟨_, rfl⟩
  have HN : Hid (∀ wz, Calls Tryz.prog 92 #[.int .u64 b] wz fun e w' => e = .returned (.int .i64 i) ∧ w' = wz) := hid (fun wz => by rw [← hbi]; exact numM b hb wz)
  have hib : -9223372036854775808 ≤ i ∧ i < 9223372036854775808 := by rw [← hbi]; exact nbI_in b hb
  rw [hbi]
  clear hbi
  have HP := hid (fun wz (hz : MM l E wz) => opM hz a)
  unfold owR at HP
  by_cases hz : onE E.W a = 0
  rotate_left
  · as_aux_lemma =>
    have e1 : fdE E.W a i = onE E.W a := by unfold fdE; rw [if_neg hz]
    rw [e1]
    rw [if_neg hz] at HP
    clear e1
    rw [if_neg hz]
    generalize onE E.W a = cd at *
    have dc : (cd != 0) = true := by simpa using hz
    have dc' : (cd == 0) = false := by simpa using hz
    go_enter Tryz.func100, Tryz.ntmps100
    go_upto_region 1 with fail
    (try simp only [World.size_alloc, ho, hp])
    generalize hw2 : World.alloc (w.alloc _) _ = w2 at HX ⊢
    clear hw2 ho hp
    obtain ⟨o0, o1, o2, o3⟩ := HX.out.cells
    (go_wp2_with fail; refine (HP.out _ HX.out.mx.md.mm).mono ?_; rintro e_ w_ ⟨he_, hw_⟩; subst he_; have hs_ := hw_.symm; clear hw_; subst hs_)
    go_wp2_with fail
    refine (HR.out cd _).mono ?_
    rintro e w3 ⟨rfl, hb3⟩
    have HX3 := hid (HX.out.below hb3)
    clear hb3 HX o0 o1 o2 o3
    go_wp2_with (refine wpList_store_blk rfl 46 _ _ rfl p rfl (rsC cd 0 0) rfl HX3.out.mx.b rfl I0.out (rsC_one _ _ _) ?_; intro w9 HB9 HU9)
    refine bodyPost_ret (results_blk (cs := (rsC cd 0 0)) Tryz.results100 rfl agg_rs HB9.out) rfl ?_
    exact ⟨rfl, hid (HX3.out.done HU9.out)⟩
  rw [if_pos hz] at HP
  obtain ⟨b0, b1, b2, b3, b4, b5, b6⟩ := onE_ok hz
  by_cases hy : fdE E.W a i = 0
  rotate_left
  · as_aux_lemma =>
    have e1 : fdE E.W a i = 8 := by
      unfold fdE at hy ⊢
      rw [if_pos hz] at hy ⊢
      split at hy
      · exact absurd rfl hy
      · rename_i hx; rw [if_neg hx]
    have hx : ¬ (0 ≤ i ∧ i < decRefs (E.W (2 * gIx a))) := by
      intro hx
      apply hy
      unfold fdE
      rw [if_pos hz, if_pos hx]
    have hz : fdE E.W a i ≠ 0 := hy
    rw [if_neg hz]
    rw [e1]
    clear hz e1 hy
    generalize decSize (E.W (2 * gIx a)) = sz at *
    generalize decRefs (E.W (2 * gIx a)) = rf at *
    generalize 2 * gIx a = k at *
    by_cases h1 : i < 0
    · have d1 : decide (i < 0) = true := decide_eq_true h1
      go_enter Tryz.func100, Tryz.ntmps100
      go_upto_region 1 with fail
      (try simp only [World.size_alloc, ho, hp])
      generalize hw2 : World.alloc (w.alloc _) _ = w2 at HX ⊢
      clear hw2 ho hp
      obtain ⟨o0, o1, o2, o3⟩ := HX.out.cells
      (go_wp2_with fail; refine (HP.out _ HX.out.mx.md.mm).mono ?_; rintro e_ w_ ⟨he_, hw_⟩; subst he_; have hs_ := hw_.symm; clear hw_; subst hs_)
      (go_wp2_with fail; refine (HN.out _).mono ?_; rintro e_ w_ ⟨he_, hw_⟩; subst he_; have hs_ := hw_.symm; clear hw_; subst hs_)
      go_wp2_with fail
      refine (HR.out 8 _).mono ?_
      rintro e w3 ⟨rfl, hb3⟩
      have HX3 := hid (HX.out.below hb3)
      clear hb3 HX o0 o1 o2 o3
      go_wp2_with (refine wpList_store_blk rfl 46 _ _ rfl p rfl (rsC 8 0 0) rfl HX3.out.mx.b rfl I0.out (rsC_one _ _ _) ?_; intro w9 HB9 HU9)
      refine bodyPost_ret (results_blk (cs := (rsC 8 0 0)) Tryz.results100 rfl agg_rs HB9.out) rfl ?_
      exact ⟨rfl, hid (HX3.out.done HU9.out)⟩
    · have d1 : decide (i < 0) = false := decide_eq_false h1
      have h2 : rf ≤ i := by omega
      have d2 : decide (i ≥ rf) = true := decide_eq_true h2
      have d2' : decide (rf ≤ i) = true := decide_eq_true h2
      go_enter Tryz.func100, Tryz.ntmps100
      go_upto_region 1 with fail
      (try simp only [World.size_alloc, ho, hp])
      generalize hw2 : World.alloc (w.alloc _) _ = w2 at HX ⊢
      clear hw2 ho hp
      obtain ⟨o0, o1, o2, o3⟩ := HX.out.cells
      (go_wp2_with fail; refine (HP.out _ HX.out.mx.md.mm).mono ?_; rintro e_ w_ ⟨he_, hw_⟩; subst he_; have hs_ := hw_.symm; clear hw_; subst hs_)
      (go_wp2_with fail; refine (HN.out _).mono ?_; rintro e_ w_ ⟨he_, hw_⟩; subst he_; have hs_ := hw_.symm; clear hw_; subst hs_)
      go_wp2_with fail
      refine (HR.out 8 _).mono ?_
      rintro e w3 ⟨rfl, hb3⟩
      have HX3 := hid (HX.out.below hb3)
      clear hb3 HX o0 o1 o2 o3
      go_wp2_with (refine wpList_store_blk rfl 46 _ _ rfl p rfl (rsC 8 0 0) rfl HX3.out.mx.b rfl I0.out (rsC_one _ _ _) ?_; intro w9 HB9 HU9)
      refine bodyPost_ret (results_blk (cs := (rsC 8 0 0)) Tryz.results100 rfl agg_rs HB9.out) rfl ?_
      exact ⟨rfl, hid (HX3.out.done HU9.out)⟩
  as_aux_lemma =>
  obtain ⟨_, x1, x2⟩ := fdE_ok hy
  obtain ⟨t, ht⟩ : ∃ t, fdAt a i = t := ⟨_, rfl⟩
  obtain ⟨i, rfl⟩ : ∃ n : Nat, i = (n : Int) := ⟨i.toNat, by omega⟩
  rw [if_pos hy, ht]
  have ht2 := ht
  unfold fdAt at ht2
  clear ht hy hz b0 b1
  generalize decSize (E.W (2 * gIx a)) = sz at *
  generalize decRefs (E.W (2 * gIx a)) = rf at *
  generalize 2 * gIx a = k at *
  have d2 : decide ((i : Int) ≥ rf) = false := decide_eq_false (by omega)
  have d2' : decide (rf ≤ (i : Int)) = false := decide_eq_false (by omega)
  have et : (k : Int) + 1 + (i : Int) = (t : Int) := by omega
  have d1 : decide ((i : Int) < 0) = false := decide_eq_false (by omega)
  have htb : t < 32768 := by omega
  clear ht2
  have HI := hid (fun wz => refOkM c wz)
  by_cases hr : rfOk c
  rotate_left
  · as_aux_lemma =>
    rw [decide_eq_false hr] at HI
    rw [if_neg hr]
    clear hr
    go_enter Tryz.func100, Tryz.ntmps100
    go_upto_region 1 with fail
    (try simp only [World.size_alloc, ho, hp])
    generalize hw2 : World.alloc (w.alloc _) _ = w2 at HX ⊢
    clear hw2 ho hp
    obtain ⟨o0, o1, o2, o3⟩ := HX.out.cells
    (go_wp2_with fail; refine (HP.out _ HX.out.mx.md.mm).mono ?_; rintro e_ w_ ⟨he_, hw_⟩; subst he_; have hs_ := hw_.symm; clear hw_; subst hs_)
    (go_wp2_with fail; refine (HN.out _).mono ?_; rintro e_ w_ ⟨he_, hw_⟩; subst he_; have hs_ := hw_.symm; clear hw_; subst hs_)
    (go_wp2_with fail; refine (HI.out _).mono ?_; rintro e_ w_ ⟨he_, hw_⟩; subst he_; have hs_ := hw_.symm; clear hw_; subst hs_)
    go_wp2_with fail
    refine (HR.out 9 _).mono ?_
    rintro e w3 ⟨rfl, hb3⟩
    have HX3 := hid (HX.out.below hb3)
    clear hb3 HX o0 o1 o2 o3
    go_wp2_with (refine wpList_store_blk rfl 46 _ _ rfl p rfl (rsC 9 0 0) rfl HX3.out.mx.b rfl I0.out (rsC_one _ _ _) ?_; intro w9 HB9 HU9)
    refine bodyPost_ret (results_blk (cs := (rsC 9 0 0)) Tryz.results100 rfl agg_rs HB9.out) rfl ?_
    exact ⟨rfl, hid (HX3.out.done HU9.out)⟩
  as_aux_lemma =>
  rw [decide_eq_true hr] at HI
  rw [if_pos hr]
  clear hr
  obtain ⟨c, rfl⟩ : ∃ x : Nat, c = (x : Int) := ⟨c.toNat, by have := hc.1; omega⟩
  rw [show ((c : Int)).toNat = c by omega]
  have hcn : c < 18446744073709551616 := by have := hc.2; omega
  go_enter Tryz.func100, Tryz.ntmps100
  go_upto_region 1 with fail
  (try simp only [World.size_alloc, ho, hp])
  generalize hw2 : World.alloc (w.alloc _) _ = w2 at HX ⊢
  clear hw2 ho hp
  obtain ⟨o0, o1, o2, o3⟩ := HX.out.cells
  (go_wp2_with fail; refine (HP.out _ HX.out.mx.md.mm).mono ?_; rintro e_ w_ ⟨he_, hw_⟩; subst he_; have hs_ := hw_.symm; clear hw_; subst hs_)
  (go_wp2_with fail; refine (HN.out _).mono ?_; rintro e_ w_ ⟨he_, hw_⟩; subst he_; have hs_ := hw_.symm; clear hw_; subst hs_)

  (go_wp2_with fail; refine (HI.out _).mono ?_; rintro e_ w_ ⟨he_, hw_⟩; subst he_; have hs_ := hw_.symm; clear hw_; subst hs_)
  obtain ⟨_, _, _, _, _, c5⟩ := HX.out.mx.md.mm.cells
  have f5 := HX.out.mx.md.mm.m.frozen 5
  have HX2 := hid HX.out.ver
  have vw := ver_wrap E.v
  generalize ((E.v + 1) % 18446744073709551616 : Nat) = v1 at vw HX2
  clear HX
  go_upto_region 17 with fail
  clear c5 f5 o0 o1 o2 o3
  generalize hw3 : World.setCell _ _ _ = w3 at HX2 ⊢
  clear hw3 vw
  obtain ⟨o0, o1, o2, o3⟩ := HX2.out.cells
  obtain ⟨X', W, HTT, H0, hne, HCl⟩ := class_below w3
  have y1 : ∀ z, (W z).cell? ⟨l.m, 0, none⟩ = some (.slice (some ⟨l.w, 0, none⟩) 32768 32768) := fun z => (HX2.out.below (HTT.out z)).mx.md.mm.cells.1
  have y2 : ∀ z, (W z).cell? ⟨o, 3, none⟩ = some (.int .u64 (c : Int)) := fun z => (HX2.out.below (HTT.out z)).cells.2.2.2
  refine wp_region_class_last W rfl (by kernel_rfl) (by kernel_rfl) (by kernel_rfl) H0.out ?_
  dsimp only [List.dropLast, List.getLast]
  repeat (go_big_quiet_step (fail))
  refine wpQuiet_nil ?_
  intro z
  have HZ := hid (HX2.out.below (HTT.out z))
  generalize W z = wz at HZ ⊢
  clear y1 y2 H0 HTT HCl hne HX2 o0 o1 o2 o3
  obtain ⟨cv, cz⟩ : ∃ cv, wz.cell? ⟨l.w, t, none⟩ = some cv := ⟨_, HZ.out.mx.md.mm.word htb⟩
  have fz := HZ.out.mx.md.mm.ws.frozen t
  have HF := hid (HZ.out.step ((MD.start HZ.out.mx.md.mm).putW (i := t) (x := c) htb hcn))
  clear HZ
  go_upto_region 18 with fail
  clear cz fz
  generalize hw5 : wz.setCell _ _ = w5 at HF ⊢
  clear hw5
  obtain ⟨o0, o1, o2, o3⟩ := HF.out.cells

  go_wp2_with fail
  refine (HA.out _).mono ?_
  rintro e w3 ⟨rfl, hb3⟩
  have HX3 := hid (HF.out.below hb3)
  clear hb3 HF o0 o1 o2 o3
  go_wp2_with (refine wpList_store_blk rfl 46 _ _ rfl p rfl (rsC 0 0 0) rfl HX3.out.mx.b rfl I0.out (rsC_one _ _ _) ?_; intro w9 HB9 HU9)
  refine bodyPost_ret (results_blk (cs := (rsC 0 0 0)) Tryz.results100 rfl agg_rs HB9.out) rfl ?_
  exact ⟨rfl, hid (HX3.out.done HU9.out)⟩
set_option maxRecDepth 100000 in
set_option maxHeartbeats 1000000 in
theorem data10 (h : MM l E w) (a b c : Int) (ha : U64 a) (hb : U64 b) (hc : U64 c) : Calls Tryz.prog 101 #[.pointer (some ⟨l.m, 0, none⟩), .agg #[.int .u8 10, .int .u64 a, .int .u64 b, .int .u64 c]] w fun e w' => e = .returned (.agg (rsG (dtE E.W a (nbI b)) ((65536 + dtAt E.W a (nbI b) : Nat) : Int) 0).toArray) ∧ Hid (MD w l E w') := by
  have I0 := hid info_rs
  have HR := hid (fun (cd : Int) (wz : World) => refM cd wz)
  have HA := hid (fun wz => ansM 0 0 wz)
  obtain ⟨o, ho⟩ : ∃ o, w.heap.size = o := ⟨_, rfl⟩
  obtain ⟨p, hp⟩ : ∃ p, o + 1 = p := ⟨_, rfl⟩
  have HX : Hid (MP w l E o p [.int .u8 10, .int .u64 a, .int .u64 b, .int .u64 c] ((w.alloc (.cells #[.int .u8 10, .int .u64 a, .int .u64 b, .int .u64 c] 31)).alloc (.cells #[.int .u8 0, .int .u64 0, .int .u64 0, .string { data := #[] }, .int .i64 0, .int .i64 0, .int .i64 0, .int .i64 0, .int .i64 0, .int .i64 0, .int .i64 0, .int .i64 0, .int .i64 0, .int .i64 0, .int .i64 0, .int .i64 0, .int .i64 0, .int .i64 0, .int .i64 0, .int .i64 0, .int .u8 0, .int .i64 0, .int .i64 0, .int .i64 0, .int .i64 0, .int .i64 0, .int .i64 0, .int .i64 0, .int .i64 0, .int .i64 0, .int .i64 0, .int .i64 0, .int .i64 0, .int .i64 0, .int .i64 0] 46))) := hid (MP.start h ho hp)
  clear h
  obtain ⟨i, hbi⟩ : ∃ i, nbI b = i := ⟨_, rfl⟩
  have HN : Hid (∀ wz, Calls Tryz.prog 92 #[.int .u64 b] wz fun e w' => e = .returned (.int .i64 i) ∧ w' = wz) := hid (fun wz => by rw [← hbi]; exact numM b hb wz)
  have hib : -9223372036854775808 ≤ i ∧ i < 9223372036854775808 := by rw [← hbi]; exact nbI_in b hb
  rw [hbi]
  clear hbi
  have HP := hid (fun wz (hz : MM l E wz) => opM hz a)
  unfold owR at HP
  by_cases hz : onE E.W a = 0
  rotate_left
  · as_aux_lemma =>
    have e1 : dtE E.W a i = onE E.W a := by unfold dtE; rw [if_neg hz]
    rw [e1]
    rw [if_neg hz] at HP
    clear e1
    rw [rsG_bad hz]
    generalize onE E.W a = cd at *
    have dc : (cd != 0) = true := by simpa using hz
    have dc' : (cd == 0) = false := by simpa using hz
    go_enter Tryz.func101, Tryz.ntmps101
    go_upto_region 1 with fail
    (try simp only [World.size_alloc, ho, hp])
    generalize hw2 : World.alloc (w.alloc _) _ = w2 at HX ⊢
    clear hw2 ho hp
    obtain ⟨o0, o1, o2, o3⟩ := HX.out.cells
    (go_wp2_with fail; refine (HP.out _ HX.out.mx.md.mm).mono ?_; rintro e_ w_ ⟨he_, hw_⟩; subst he_; have hs_ := hw_.symm; clear hw_; subst hs_)
    go_wp2_with fail
    refine (HR.out cd _).mono ?_
    rintro e w3 ⟨rfl, hb3⟩
    have HX3 := hid (HX.out.below hb3)
    clear hb3 HX o0 o1 o2 o3
    go_wp2_with (refine wpList_store_blk rfl 46 _ _ rfl p rfl (rsC cd 0 0) rfl HX3.out.mx.b rfl I0.out (rsC_one _ _ _) ?_; intro w9 HB9 HU9)
    refine bodyPost_ret (results_blk (cs := (rsC cd 0 0)) Tryz.results101 rfl agg_rs HB9.out) rfl ?_
    exact ⟨rfl, hid (HX3.out.done HU9.out)⟩
  rw [if_pos hz] at HP
  obtain ⟨b0, b1, b2, b3, b4, b5, b6⟩ := onE_ok hz
  by_cases hy : dtE E.W a i = 0
  rotate_left
  · as_aux_lemma =>
    have e1 : dtE E.W a i = 8 := by
      unfold dtE at hy ⊢
      rw [if_pos hz] at hy ⊢
      split at hy
      · exact absurd rfl hy
      · rename_i hx; rw [if_neg hx]
    have hx : ¬ (0 ≤ i ∧ i < decSize (E.W (2 * gIx a)) - decRefs (E.W (2 * gIx a))) := by
      intro hx
      apply hy
      unfold dtE
      rw [if_pos hz, if_pos hx]
    have hz : dtE E.W a i ≠ 0 := hy
    rw [rsG_bad hz]
    rw [e1]
    clear hz e1 hy
    generalize decSize (E.W (2 * gIx a)) = sz at *
    generalize decRefs (E.W (2 * gIx a)) = rf at *
    generalize 2 * gIx a = k at *
    obtain ⟨df, hdf⟩ : ∃ df, sz - rf = df := ⟨_, rfl⟩
    have hdf2 : 0 ≤ df ∧ df ≤ 8192 := by omega
    rw [hdf] at hx
    by_cases h1 : i < 0
    · have d1 : decide (i < 0) = true := decide_eq_true h1
      go_enter Tryz.func101, Tryz.ntmps101
      go_upto_region 1 with fail
      (try simp only [World.size_alloc, ho, hp])
      generalize hw2 : World.alloc (w.alloc _) _ = w2 at HX ⊢
      clear hw2 ho hp
      obtain ⟨o0, o1, o2, o3⟩ := HX.out.cells
      (go_wp2_with fail; refine (HP.out _ HX.out.mx.md.mm).mono ?_; rintro e_ w_ ⟨he_, hw_⟩; subst he_; have hs_ := hw_.symm; clear hw_; subst hs_)
      (go_wp2_with fail; refine (HN.out _).mono ?_; rintro e_ w_ ⟨he_, hw_⟩; subst he_; have hs_ := hw_.symm; clear hw_; subst hs_)
      go_wp2_with fail
      refine (HR.out 8 _).mono ?_
      rintro e w3 ⟨rfl, hb3⟩
      have HX3 := hid (HX.out.below hb3)
      clear hb3 HX o0 o1 o2 o3
      go_wp2_with (refine wpList_store_blk rfl 46 _ _ rfl p rfl (rsC 8 0 0) rfl HX3.out.mx.b rfl I0.out (rsC_one _ _ _) ?_; intro w9 HB9 HU9)
      refine bodyPost_ret (results_blk (cs := (rsC 8 0 0)) Tryz.results101 rfl agg_rs HB9.out) rfl ?_
      exact ⟨rfl, hid (HX3.out.done HU9.out)⟩
    · have d1 : decide (i < 0) = false := decide_eq_false h1
      have h2 : df ≤ i := by omega
      have d2 : decide (i ≥ df) = true := decide_eq_true h2
      have d2' : decide (df ≤ i) = true := decide_eq_true h2
      go_enter Tryz.func101, Tryz.ntmps101
      go_upto_region 1 with fail
      (try simp only [World.size_alloc, ho, hp])
      generalize hw2 : World.alloc (w.alloc _) _ = w2 at HX ⊢
      clear hw2 ho hp
      obtain ⟨o0, o1, o2, o3⟩ := HX.out.cells
      (go_wp2_with fail; refine (HP.out _ HX.out.mx.md.mm).mono ?_; rintro e_ w_ ⟨he_, hw_⟩; subst he_; have hs_ := hw_.symm; clear hw_; subst hs_)
      (go_wp2_with fail; refine (HN.out _).mono ?_; rintro e_ w_ ⟨he_, hw_⟩; subst he_; have hs_ := hw_.symm; clear hw_; subst hs_)
      go_wp2_with fail
      refine (HR.out 8 _).mono ?_
      rintro e w3 ⟨rfl, hb3⟩
      have HX3 := hid (HX.out.below hb3)
      clear hb3 HX o0 o1 o2 o3
      go_wp2_with (refine wpList_store_blk rfl 46 _ _ rfl p rfl (rsC 8 0 0) rfl HX3.out.mx.b rfl I0.out (rsC_one _ _ _) ?_; intro w9 HB9 HU9)
      refine bodyPost_ret (results_blk (cs := (rsC 8 0 0)) Tryz.results101 rfl agg_rs HB9.out) rfl ?_
      exact ⟨rfl, hid (HX3.out.done HU9.out)⟩
  as_aux_lemma =>
  obtain ⟨_, x1, x2⟩ := dtE_ok hy
  obtain ⟨t, ht⟩ : ∃ t, dtAt E.W a i = t := ⟨_, rfl⟩
  obtain ⟨i, rfl⟩ : ∃ n : Nat, i = (n : Int) := ⟨i.toNat, by omega⟩
  rw [hy, ht]
  rw [show rsG 0 ((65536 + t : Nat) : Int) 0 = rsC 0 ((65536 + t : Nat) : Int) 0 from rfl]
  have ht2 := ht
  unfold dtAt at ht2
  clear ht hy hz b0 b1
  generalize decSize (E.W (2 * gIx a)) = sz at *
  generalize decRefs (E.W (2 * gIx a)) = rf at *
  generalize 2 * gIx a = k at *
  obtain ⟨df, hdf⟩ : ∃ df, sz - rf = df := ⟨_, rfl⟩
  have hdf2 : 0 ≤ df ∧ df ≤ 8192 := by omega
  rw [hdf] at x2
  have d2 : decide ((i : Int) ≥ df) = false := decide_eq_false (by omega)
  have d2' : decide (df ≤ (i : Int)) = false := decide_eq_false (by omega)
  obtain ⟨z1, hz1⟩ : ∃ z1, (k : Int) + 1 + rf = z1 := ⟨_, rfl⟩
  have hz2 : 0 ≤ z1 ∧ z1 ≤ 50000 := by omega
  have et : z1 + (i : Int) = (t : Int) := by omega
  have d1 : decide ((i : Int) < 0) = false := decide_eq_false (by omega)
  have htb : t < 32768 := by omega
  clear ht2
  have HAd := hid (fun wz => adrM t (by omega) wz)
  generalize 65536 + t = y at *
  go_enter Tryz.func101, Tryz.ntmps101
  go_upto_region 1 with fail
  (try simp only [World.size_alloc, ho, hp])
  generalize hw2 : World.alloc (w.alloc _) _ = w2 at HX ⊢
  clear hw2 ho hp
  obtain ⟨o0, o1, o2, o3⟩ := HX.out.cells
  (go_wp2_with fail; refine (HP.out _ HX.out.mx.md.mm).mono ?_; rintro e_ w_ ⟨he_, hw_⟩; subst he_; have hs_ := hw_.symm; clear hw_; subst hs_)
  (go_wp2_with fail; refine (HN.out _).mono ?_; rintro e_ w_ ⟨he_, hw_⟩; subst he_; have hs_ := hw_.symm; clear hw_; subst hs_)

  (go_wp2_with fail; refine (HAd.out _).mono ?_; rintro e_ w_ ⟨he_, hw_⟩; subst he_; have hs_ := hw_.symm; clear hw_; subst hs_)
  go_wp2_with fail
  refine (ansM (y : Int) 0 _).mono ?_
  rintro e w3 ⟨rfl, hb3⟩
  have HX3 := hid (HX.out.below hb3)
  clear hb3 HX o0 o1 o2 o3
  go_wp2_with (refine wpList_store_blk rfl 46 _ _ rfl p rfl (rsC 0 (y : Int) 0) rfl HX3.out.mx.b rfl I0.out (rsC_one _ _ _) ?_; intro w9 HB9 HU9)
  refine bodyPost_ret (results_blk (cs := (rsC 0 (y : Int) 0)) Tryz.results101 rfl agg_rs HB9.out) rfl ?_
  exact ⟨rfl, hid (HX3.out.done HU9.out)⟩
set_option maxRecDepth 100000 in
set_option maxHeartbeats 1000000 in
theorem data13 (h : MM l E w) (a b c : Int) (ha : U64 a) (hb : U64 b) (hc : U64 c) : Calls Tryz.prog 101 #[.pointer (some ⟨l.m, 0, none⟩), .agg #[.int .u8 13, .int .u64 a, .int .u64 b, .int .u64 c]] w fun e w' => e = .returned (.agg (rsG (dtE E.W a (nbI b)) ((E.W (dtAt E.W a (nbI b)) : Nat) : Int) 0).toArray) ∧ Hid (MD w l E w') := by
  have I0 := hid info_rs
  have HR := hid (fun (cd : Int) (wz : World) => refM cd wz)
  have HA := hid (fun wz => ansM 0 0 wz)
  obtain ⟨o, ho⟩ : ∃ o, w.heap.size = o := ⟨_, rfl⟩
  obtain ⟨p, hp⟩ : ∃ p, o + 1 = p := ⟨_, rfl⟩
  have HX : Hid (MP w l E o p [.int .u8 13, .int .u64 a, .int .u64 b, .int .u64 c] ((w.alloc (.cells #[.int .u8 13, .int .u64 a, .int .u64 b, .int .u64 c] 31)).alloc (.cells #[.int .u8 0, .int .u64 0, .int .u64 0, .string { data := #[] }, .int .i64 0, .int .i64 0, .int .i64 0, .int .i64 0, .int .i64 0, .int .i64 0, .int .i64 0, .int .i64 0, .int .i64 0, .int .i64 0, .int .i64 0, .int .i64 0, .int .i64 0, .int .i64 0, .int .i64 0, .int .i64 0, .int .u8 0, .int .i64 0, .int .i64 0, .int .i64 0, .int .i64 0, .int .i64 0, .int .i64 0, .int .i64 0, .int .i64 0, .int .i64 0, .int .i64 0, .int .i64 0, .int .i64 0, .int .i64 0, .int .i64 0] 46))) := hid (MP.start h ho hp)
  clear h
  obtain ⟨i, hbi⟩ : ∃ i, nbI b = i := ⟨_, rfl⟩
  have HN : Hid (∀ wz, Calls Tryz.prog 92 #[.int .u64 b] wz fun e w' => e = .returned (.int .i64 i) ∧ w' = wz) := hid (fun wz => by rw [← hbi]; exact numM b hb wz)
  have hib : -9223372036854775808 ≤ i ∧ i < 9223372036854775808 := by rw [← hbi]; exact nbI_in b hb
  rw [hbi]
  clear hbi
  have HP := hid (fun wz (hz : MM l E wz) => opM hz a)
  unfold owR at HP
  by_cases hz : onE E.W a = 0
  rotate_left
  · as_aux_lemma =>
    have e1 : dtE E.W a i = onE E.W a := by unfold dtE; rw [if_neg hz]
    rw [e1]
    rw [if_neg hz] at HP
    clear e1
    rw [rsG_bad hz]
    generalize onE E.W a = cd at *
    have dc : (cd != 0) = true := by simpa using hz
    have dc' : (cd == 0) = false := by simpa using hz
    go_enter Tryz.func101, Tryz.ntmps101
    go_upto_region 1 with fail
    (try simp only [World.size_alloc, ho, hp])
    generalize hw2 : World.alloc (w.alloc _) _ = w2 at HX ⊢
    clear hw2 ho hp
    obtain ⟨o0, o1, o2, o3⟩ := HX.out.cells
    (go_wp2_with fail; refine (HP.out _ HX.out.mx.md.mm).mono ?_; rintro e_ w_ ⟨he_, hw_⟩; subst he_; have hs_ := hw_.symm; clear hw_; subst hs_)
    go_wp2_with fail
    refine (HR.out cd _).mono ?_
    rintro e w3 ⟨rfl, hb3⟩
    have HX3 := hid (HX.out.below hb3)
    clear hb3 HX o0 o1 o2 o3
    go_wp2_with (refine wpList_store_blk rfl 46 _ _ rfl p rfl (rsC cd 0 0) rfl HX3.out.mx.b rfl I0.out (rsC_one _ _ _) ?_; intro w9 HB9 HU9)
    refine bodyPost_ret (results_blk (cs := (rsC cd 0 0)) Tryz.results101 rfl agg_rs HB9.out) rfl ?_
    exact ⟨rfl, hid (HX3.out.done HU9.out)⟩
  rw [if_pos hz] at HP
  obtain ⟨b0, b1, b2, b3, b4, b5, b6⟩ := onE_ok hz
  by_cases hy : dtE E.W a i = 0
  rotate_left
  · as_aux_lemma =>
    have e1 : dtE E.W a i = 8 := by
      unfold dtE at hy ⊢
      rw [if_pos hz] at hy ⊢
      split at hy
      · exact absurd rfl hy
      · rename_i hx; rw [if_neg hx]
    have hx : ¬ (0 ≤ i ∧ i < decSize (E.W (2 * gIx a)) - decRefs (E.W (2 * gIx a))) := by
      intro hx
      apply hy
      unfold dtE
      rw [if_pos hz, if_pos hx]
    have hz : dtE E.W a i ≠ 0 := hy
    rw [rsG_bad hz]
    rw [e1]
    clear hz e1 hy
    generalize decSize (E.W (2 * gIx a)) = sz at *
    generalize decRefs (E.W (2 * gIx a)) = rf at *
    generalize 2 * gIx a = k at *
    obtain ⟨df, hdf⟩ : ∃ df, sz - rf = df := ⟨_, rfl⟩
    have hdf2 : 0 ≤ df ∧ df ≤ 8192 := by omega
    rw [hdf] at hx
    by_cases h1 : i < 0
    · have d1 : decide (i < 0) = true := decide_eq_true h1
      go_enter Tryz.func101, Tryz.ntmps101
      go_upto_region 1 with fail
      (try simp only [World.size_alloc, ho, hp])
      generalize hw2 : World.alloc (w.alloc _) _ = w2 at HX ⊢
      clear hw2 ho hp
      obtain ⟨o0, o1, o2, o3⟩ := HX.out.cells
      (go_wp2_with fail; refine (HP.out _ HX.out.mx.md.mm).mono ?_; rintro e_ w_ ⟨he_, hw_⟩; subst he_; have hs_ := hw_.symm; clear hw_; subst hs_)
      (go_wp2_with fail; refine (HN.out _).mono ?_; rintro e_ w_ ⟨he_, hw_⟩; subst he_; have hs_ := hw_.symm; clear hw_; subst hs_)
      go_wp2_with fail
      refine (HR.out 8 _).mono ?_
      rintro e w3 ⟨rfl, hb3⟩
      have HX3 := hid (HX.out.below hb3)
      clear hb3 HX o0 o1 o2 o3
      go_wp2_with (refine wpList_store_blk rfl 46 _ _ rfl p rfl (rsC 8 0 0) rfl HX3.out.mx.b rfl I0.out (rsC_one _ _ _) ?_; intro w9 HB9 HU9)
      refine bodyPost_ret (results_blk (cs := (rsC 8 0 0)) Tryz.results101 rfl agg_rs HB9.out) rfl ?_
      exact ⟨rfl, hid (HX3.out.done HU9.out)⟩
    · have d1 : decide (i < 0) = false := decide_eq_false h1
      have h2 : df ≤ i := by omega
      have d2 : decide (i ≥ df) = true := decide_eq_true h2
      have d2' : decide (df ≤ i) = true := decide_eq_true h2
      go_enter Tryz.func101, Tryz.ntmps101
      go_upto_region 1 with fail
      (try simp only [World.size_alloc, ho, hp])
      generalize hw2 : World.alloc (w.alloc _) _ = w2 at HX ⊢
      clear hw2 ho hp
      obtain ⟨o0, o1, o2, o3⟩ := HX.out.cells
      (go_wp2_with fail; refine (HP.out _ HX.out.mx.md.mm).mono ?_; rintro e_ w_ ⟨he_, hw_⟩; subst he_; have hs_ := hw_.symm; clear hw_; subst hs_)
      (go_wp2_with fail; refine (HN.out _).mono ?_; rintro e_ w_ ⟨he_, hw_⟩; subst he_; have hs_ := hw_.symm; clear hw_; subst hs_)
      go_wp2_with fail
      refine (HR.out 8 _).mono ?_
      rintro e w3 ⟨rfl, hb3⟩
      have HX3 := hid (HX.out.below hb3)
      clear hb3 HX o0 o1 o2 o3
      go_wp2_with (refine wpList_store_blk rfl 46 _ _ rfl p rfl (rsC 8 0 0) rfl HX3.out.mx.b rfl I0.out (rsC_one _ _ _) ?_; intro w9 HB9 HU9)
      refine bodyPost_ret (results_blk (cs := (rsC 8 0 0)) Tryz.results101 rfl agg_rs HB9.out) rfl ?_
      exact ⟨rfl, hid (HX3.out.done HU9.out)⟩
  as_aux_lemma =>
  obtain ⟨_, x1, x2⟩ := dtE_ok hy
  obtain ⟨t, ht⟩ : ∃ t, dtAt E.W a i = t := ⟨_, rfl⟩
  obtain ⟨i, rfl⟩ : ∃ n : Nat, i = (n : Int) := ⟨i.toNat, by omega⟩
  rw [hy, ht]
  rw [show rsG 0 ((E.W t : Nat) : Int) 0 = rsC 0 ((E.W t : Nat) : Int) 0 from rfl]
  have ht2 := ht
  unfold dtAt at ht2
  clear ht hy hz b0 b1
  generalize decSize (E.W (2 * gIx a)) = sz at *
  generalize decRefs (E.W (2 * gIx a)) = rf at *
  generalize 2 * gIx a = k at *
  obtain ⟨df, hdf⟩ : ∃ df, sz - rf = df := ⟨_, rfl⟩
  have hdf2 : 0 ≤ df ∧ df ≤ 8192 := by omega
  rw [hdf] at x2
  have d2 : decide ((i : Int) ≥ df) = false := decide_eq_false (by omega)
  have d2' : decide (df ≤ (i : Int)) = false := decide_eq_false (by omega)
  obtain ⟨z1, hz1⟩ : ∃ z1, (k : Int) + 1 + rf = z1 := ⟨_, rfl⟩
  have hz2 : 0 ≤ z1 ∧ z1 ≤ 50000 := by omega
  have et : z1 + (i : Int) = (t : Int) := by omega
  have d1 : decide ((i : Int) < 0) = false := decide_eq_false (by omega)
  have htb : t < 32768 := by omega
  clear ht2
  obtain ⟨x, hx⟩ : ∃ x, E.W t = x := ⟨_, rfl⟩
  rw [hx]
  go_enter Tryz.func101, Tryz.ntmps101
  go_upto_region 1 with fail
  (try simp only [World.size_alloc, ho, hp])
  generalize hw2 : World.alloc (w.alloc _) _ = w2 at HX ⊢
  clear hw2 ho hp
  obtain ⟨o0, o1, o2, o3⟩ := HX.out.cells
  (go_wp2_with fail; refine (HP.out _ HX.out.mx.md.mm).mono ?_; rintro e_ w_ ⟨he_, hw_⟩; subst he_; have hs_ := hw_.symm; clear hw_; subst hs_)
  (go_wp2_with fail; refine (HN.out _).mono ?_; rintro e_ w_ ⟨he_, hw_⟩; subst he_; have hs_ := hw_.symm; clear hw_; subst hs_)

  have c0 := HX.out.mx.md.mm.cells.1
  have cz := HX.out.mx.md.mm.word htb
  rw [hx] at cz
  clear hx
  go_wp2_with fail
  refine (ansM (x : Int) 0 _).mono ?_
  rintro e w3 ⟨rfl, hb3⟩
  have HX3 := hid (HX.out.below hb3)
  clear hb3 HX o0 o1 o2 o3
  go_wp2_with (refine wpList_store_blk rfl 46 _ _ rfl p rfl (rsC 0 (x : Int) 0) rfl HX3.out.mx.b rfl I0.out (rsC_one _ _ _) ?_; intro w9 HB9 HU9)
  refine bodyPost_ret (results_blk (cs := (rsC 0 (x : Int) 0)) Tryz.results101 rfl agg_rs HB9.out) rfl ?_
  exact ⟨rfl, hid (HX3.out.done HU9.out)⟩
def stDataE (E : ES) (a i c : Int) : Int × ES := if dtE E.W a i = 0 then (0, { E.tch with W := fup E.W (dtAt E.W a i) c.toNat }) else (dtE E.W a i, E)
set_option maxRecDepth 100000 in
set_option maxHeartbeats 1000000 in
theorem data14 (h : MM l E w) (a b c : Int) (ha : U64 a) (hb : U64 b) (hc : U64 c) : Calls Tryz.prog 101 #[.pointer (some ⟨l.m, 0, none⟩), .agg #[.int .u8 14, .int .u64 a, .int .u64 b, .int .u64 c]] w fun e w' => e = .returned (.agg (rsC (stDataE E a (nbI b) c).1 0 0).toArray) ∧ Hid (MD w l (stDataE E a (nbI b) c).2 w') := by
  have I0 := hid info_rs
  have HR := hid (fun (cd : Int) (wz : World) => refM cd wz)
  have HA := hid (fun wz => ansM 0 0 wz)
  obtain ⟨o, ho⟩ : ∃ o, w.heap.size = o := ⟨_, rfl⟩
  obtain ⟨p, hp⟩ : ∃ p, o + 1 = p := ⟨_, rfl⟩
  have HX : Hid (MP w l E o p [.int .u8 14, .int .u64 a, .int .u64 b, .int .u64 c] ((w.alloc (.cells #[.int .u8 14, .int .u64 a, .int .u64 b, .int .u64 c] 31)).alloc (.cells #[.int .u8 0, .int .u64 0, .int .u64 0, .string { data := #[] }, .int .i64 0, .int .i64 0, .int .i64 0, .int .i64 0, .int .i64 0, .int .i64 0, .int .i64 0, .int .i64 0, .int .i64 0, .int .i64 0, .int .i64 0, .int .i64 0, .int .i64 0, .int .i64 0, .int .i64 0, .int .i64 0, .int .u8 0, .int .i64 0, .int .i64 0, .int .i64 0, .int .i64 0, .int .i64 0, .int .i64 0, .int .i64 0, .int .i64 0, .int .i64 0, .int .i64 0, .int .i64 0, .int .i64 0, .int .i64 0, .int .i64 0] 46))) := hid (MP.start h ho hp)
  clear h
  unfold stDataE
  obtain ⟨i, hbi⟩ : ∃ i, nbI b = i := ⟨_, rfl⟩
  have HN : Hid (∀ wz, Calls Tryz.prog 92 #[.int .u64 b] wz fun e w' => e = .returned (.int .i64 i) ∧ w' = wz) := hid (fun wz => by rw [← hbi]; exact numM b hb wz)
  have hib : -9223372036854775808 ≤ i ∧ i < 9223372036854775808 := by rw [← hbi]; exact nbI_in b hb
  rw [hbi]
  clear hbi
  have HP := hid (fun wz (hz : MM l E wz) => opM hz a)
  unfold owR at HP
  by_cases hz : onE E.W a = 0
  rotate_left
  · as_aux_lemma =>
    have e1 : dtE E.W a i = onE E.W a := by unfold dtE; rw [if_neg hz]
    rw [e1]
    rw [if_neg hz] at HP
    clear e1
    rw [if_neg hz]
    generalize onE E.W a = cd at *
    have dc : (cd != 0) = true := by simpa using hz
    have dc' : (cd == 0) = false := by simpa using hz
    go_enter Tryz.func101, Tryz.ntmps101
    go_upto_region 1 with fail
    (try simp only [World.size_alloc, ho, hp])
    generalize hw2 : World.alloc (w.alloc _) _ = w2 at HX ⊢
    clear hw2 ho hp
    obtain ⟨o0, o1, o2, o3⟩ := HX.out.cells
    (go_wp2_with fail; refine (HP.out _ HX.out.mx.md.mm).mono ?_; rintro e_ w_ ⟨he_, hw_⟩; subst he_; have hs_ := hw_.symm; clear hw_; subst hs_)
    go_wp2_with fail
    refine (HR.out cd _).mono ?_
    rintro e w3 ⟨rfl, hb3⟩
    have HX3 := hid (HX.out.below hb3)
    clear hb3 HX o0 o1 o2 o3
    go_wp2_with (refine wpList_store_blk rfl 46 _ _ rfl p rfl (rsC cd 0 0) rfl HX3.out.mx.b rfl I0.out (rsC_one _ _ _) ?_; intro w9 HB9 HU9)
    refine bodyPost_ret (results_blk (cs := (rsC cd 0 0)) Tryz.results101 rfl agg_rs HB9.out) rfl ?_
    exact ⟨rfl, hid (HX3.out.done HU9.out)⟩
  rw [if_pos hz] at HP
  obtain ⟨b0, b1, b2, b3, b4, b5, b6⟩ := onE_ok hz
  by_cases hy : dtE E.W a i = 0
  rotate_left
  · as_aux_lemma =>
    have e1 : dtE E.W a i = 8 := by
      unfold dtE at hy ⊢
      rw [if_pos hz] at hy ⊢
      split at hy
      · exact absurd rfl hy
      · rename_i hx; rw [if_neg hx]
    have hx : ¬ (0 ≤ i ∧ i < decSize (E.W (2 * gIx a)) - decRefs (E.W (2 * gIx a))) := by
      intro hx
      apply hy
      unfold dtE
      rw [if_pos hz, if_pos hx]
    have hz : dtE E.W a i ≠ 0 := hy
    rw [if_neg hz]
    rw [e1]
    clear hz e1 hy
    generalize decSize (E.W (2 * gIx a)) = sz at *
    generalize decRefs (E.W (2 * gIx a)) = rf at *
    generalize 2 * gIx a = k at *
    obtain ⟨df, hdf⟩ : ∃ df, sz - rf = df := ⟨_, rfl⟩
    have hdf2 : 0 ≤ df ∧ df ≤ 8192 := by omega
    rw [hdf] at hx
    by_cases h1 : i < 0
    · have d1 : decide (i < 0) = true := decide_eq_true h1
      go_enter Tryz.func101, Tryz.ntmps101
      go_upto_region 1 with fail
      (try simp only [World.size_alloc, ho, hp])
      generalize hw2 : World.alloc (w.alloc _) _ = w2 at HX ⊢
      clear hw2 ho hp
      obtain ⟨o0, o1, o2, o3⟩ := HX.out.cells
      (go_wp2_with fail; refine (HP.out _ HX.out.mx.md.mm).mono ?_; rintro e_ w_ ⟨he_, hw_⟩; subst he_; have hs_ := hw_.symm; clear hw_; subst hs_)
      (go_wp2_with fail; refine (HN.out _).mono ?_; rintro e_ w_ ⟨he_, hw_⟩; subst he_; have hs_ := hw_.symm; clear hw_; subst hs_)
      go_wp2_with fail
      refine (HR.out 8 _).mono ?_
      rintro e w3 ⟨rfl, hb3⟩
      have HX3 := hid (HX.out.below hb3)
      clear hb3 HX o0 o1 o2 o3
      go_wp2_with (refine wpList_store_blk rfl 46 _ _ rfl p rfl (rsC 8 0 0) rfl HX3.out.mx.b rfl I0.out (rsC_one _ _ _) ?_; intro w9 HB9 HU9)
      refine bodyPost_ret (results_blk (cs := (rsC 8 0 0)) Tryz.results101 rfl agg_rs HB9.out) rfl ?_
      exact ⟨rfl, hid (HX3.out.done HU9.out)⟩
    · have d1 : decide (i < 0) = false := decide_eq_false h1
      have h2 : df ≤ i := by omega
      have d2 : decide (i ≥ df) = true := decide_eq_true h2
      have d2' : decide (df ≤ i) = true := decide_eq_true h2
      go_enter Tryz.func101, Tryz.ntmps101
      go_upto_region 1 with fail
      (try simp only [World.size_alloc, ho, hp])
      generalize hw2 : World.alloc (w.alloc _) _ = w2 at HX ⊢
      clear hw2 ho hp
      obtain ⟨o0, o1, o2, o3⟩ := HX.out.cells
      (go_wp2_with fail; refine (HP.out _ HX.out.mx.md.mm).mono ?_; rintro e_ w_ ⟨he_, hw_⟩; subst he_; have hs_ := hw_.symm; clear hw_; subst hs_)
      (go_wp2_with fail; refine (HN.out _).mono ?_; rintro e_ w_ ⟨he_, hw_⟩; subst he_; have hs_ := hw_.symm; clear hw_; subst hs_)
      go_wp2_with fail
      refine (HR.out 8 _).mono ?_
      rintro e w3 ⟨rfl, hb3⟩
      have HX3 := hid (HX.out.below hb3)
      clear hb3 HX o0 o1 o2 o3
      go_wp2_with (refine wpList_store_blk rfl 46 _ _ rfl p rfl (rsC 8 0 0) rfl HX3.out.mx.b rfl I0.out (rsC_one _ _ _) ?_; intro w9 HB9 HU9)
      refine bodyPost_ret (results_blk (cs := (rsC 8 0 0)) Tryz.results101 rfl agg_rs HB9.out) rfl ?_
      exact ⟨rfl, hid (HX3.out.done HU9.out)⟩
  as_aux_lemma =>
  obtain ⟨_, x1, x2⟩ := dtE_ok hy
  obtain ⟨t, ht⟩ : ∃ t, dtAt E.W a i = t := ⟨_, rfl⟩
  obtain ⟨i, rfl⟩ : ∃ n : Nat, i = (n : Int) := ⟨i.toNat, by omega⟩
  rw [if_pos hy, ht]
  have ht2 := ht
  unfold dtAt at ht2
  clear ht hy hz b0 b1
  generalize decSize (E.W (2 * gIx a)) = sz at *
  generalize decRefs (E.W (2 * gIx a)) = rf at *
  generalize 2 * gIx a = k at *
  obtain ⟨df, hdf⟩ : ∃ df, sz - rf = df := ⟨_, rfl⟩
  have hdf2 : 0 ≤ df ∧ df ≤ 8192 := by omega
  rw [hdf] at x2
  have d2 : decide ((i : Int) ≥ df) = false := decide_eq_false (by omega)
  have d2' : decide (df ≤ (i : Int)) = false := decide_eq_false (by omega)
  obtain ⟨z1, hz1⟩ : ∃ z1, (k : Int) + 1 + rf = z1 := ⟨_, rfl⟩
  have hz2 : 0 ≤ z1 ∧ z1 ≤ 50000 := by omega
  have et : z1 + (i : Int) = (t : Int) := by omega
  have d1 : decide ((i : Int) < 0) = false := decide_eq_false (by omega)
  have htb : t < 32768 := by omega
  clear ht2
  obtain ⟨c, rfl⟩ : ∃ x : Nat, c = (x : Int) := ⟨c.toNat, by have := hc.1; omega⟩
  rw [show ((c : Int)).toNat = c by omega]
  have hcn : c < 18446744073709551616 := by have := hc.2; omega
  go_enter Tryz.func101, Tryz.ntmps101
  go_upto_region 1 with fail
  (try simp only [World.size_alloc, ho, hp])
  generalize hw2 : World.alloc (w.alloc _) _ = w2 at HX ⊢
  clear hw2 ho hp
  obtain ⟨o0, o1, o2, o3⟩ := HX.out.cells
  (go_wp2_with fail; refine (HP.out _ HX.out.mx.md.mm).mono ?_; rintro e_ w_ ⟨he_, hw_⟩; subst he_; have hs_ := hw_.symm; clear hw_; subst hs_)
  (go_wp2_with fail; refine (HN.out _).mono ?_; rintro e_ w_ ⟨he_, hw_⟩; subst he_; have hs_ := hw_.symm; clear hw_; subst hs_)

  obtain ⟨_, _, _, _, _, c5⟩ := HX.out.mx.md.mm.cells
  have f5 := HX.out.mx.md.mm.m.frozen 5
  have HX2 := hid HX.out.ver
  have vw := ver_wrap E.v
  generalize ((E.v + 1) % 18446744073709551616 : Nat) = v1 at vw HX2
  clear HX
  go_upto_region 13 with fail
  clear c5 f5 o0 o1 o2 o3
  generalize hw3 : World.setCell _ _ _ = w3 at HX2 ⊢
  clear hw3 vw
  obtain ⟨o0, o1, o2, o3⟩ := HX2.out.cells
  obtain ⟨X', W, HTT, H0, hne, HCl⟩ := class_below w3
  have y1 : ∀ z, (W z).cell? ⟨l.m, 0, none⟩ = some (.slice (some ⟨l.w, 0, none⟩) 32768 32768) := fun z => (HX2.out.below (HTT.out z)).mx.md.mm.cells.1
  have y2 : ∀ z, (W z).cell? ⟨o, 3, none⟩ = some (.int .u64 (c : Int)) := fun z => (HX2.out.below (HTT.out z)).cells.2.2.2
  refine wp_region_class_last W rfl (by kernel_rfl) (by kernel_rfl) (by kernel_rfl) H0.out ?_
  dsimp only [List.dropLast, List.getLast]
  repeat (go_big_quiet_step (fail))
  refine wpQuiet_nil ?_
  intro z
  have HZ := hid (HX2.out.below (HTT.out z))
  generalize W z = wz at HZ ⊢
  clear y1 y2 H0 HTT HCl hne HX2 o0 o1 o2 o3
  obtain ⟨cv, cz⟩ : ∃ cv, wz.cell? ⟨l.w, t, none⟩ = some cv := ⟨_, HZ.out.mx.md.mm.word htb⟩
  have fz := HZ.out.mx.md.mm.ws.frozen t
  have HF := hid (HZ.out.step ((MD.start HZ.out.mx.md.mm).putW (i := t) (x := c) htb hcn))
  clear HZ
  go_upto_region 14 with fail
  clear cz fz
  generalize hw5 : wz.setCell _ _ = w5 at HF ⊢
  clear hw5
  obtain ⟨o0, o1, o2, o3⟩ := HF.out.cells

  go_wp2_with fail
  refine (HA.out _).mono ?_
  rintro e w3 ⟨rfl, hb3⟩
  have HX3 := hid (HF.out.below hb3)
  clear hb3 HF o0 o1 o2 o3
  go_wp2_with (refine wpList_store_blk rfl 46 _ _ rfl p rfl (rsC 0 0 0) rfl HX3.out.mx.b rfl I0.out (rsC_one _ _ _) ?_; intro w9 HB9 HU9)
  refine bodyPost_ret (results_blk (cs := (rsC 0 0 0)) Tryz.results101 rfl agg_rs HB9.out) rfl ?_
  exact ⟨rfl, hid (HX3.out.done HU9.out)⟩
end
end Go.Proofs.Qxb6500887aGreat
