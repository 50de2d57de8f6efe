/- Steps that the model plays itself (written by tools/mk_awc.py). -/
import Derived.Test.Qxb6500887aGreatAwC
import Derived.Deep.DeepCutAuto
namespace Go.Proofs.Qxb6500887aGreat
open Go.RowKit
set_option linter.unusedSimpArgs false
set_option linter.unusedVariables false
section
variable {l : ML} {E E' : ES} {w w' w0 w3 w4 : World} {o p r : Nat} {oc rs : List Value}
set_option maxRecDepth 100000 in
set_option maxHeartbeats 1000000 in
theorem st7 (h : MM l E w) (a b c : Int) (ha : U64 a) (hb : U64 b) (hc : U64 c) : Calls Tryz.prog 14 #[.pointer (some ⟨l.m, 0, none⟩), .agg #[.int .u8 7, .int .u64 a, .int .u64 b, .int .u64 c]] w fun e w' => e = .returned (.agg (headE E.W a).toArray) ∧ Hid (MD w l E w') := by
  have I0 := hid info_rs
  have HR := hid (fun (cd : Int) (wz : World) => refM cd wz)
  have HA := hid (fun wz => ansM 0 0 wz)
  obtain ⟨o, ho⟩ : ∃ o, w.heap.size = o := ⟨_, rfl⟩
  obtain ⟨p, hp⟩ : ∃ p, o + 1 = p := ⟨_, rfl⟩
  have HX : Hid (MP w l E o p [.int .u8 7, .int .u64 a, .int .u64 b, .int .u64 c] ((w.alloc (.cells #[.int .u8 7, .int .u64 a, .int .u64 b, .int .u64 c] 31)).alloc (.cells #[.int .u8 0, .int .u64 0, .int .u64 0, .string { data := #[] }, .int .i64 0, .int .i64 0, .int .i64 0, .int .i64 0, .int .i64 0, .int .i64 0, .int .i64 0, .int .i64 0, .int .i64 0, .int .i64 0, .int .i64 0, .int .i64 0, .int .i64 0, .int .i64 0, .int .i64 0, .int .i64 0, .int .u8 0, .int .i64 0, .int .i64 0, .int .i64 0, .int .i64 0, .int .i64 0, .int .i64 0, .int .i64 0, .int .i64 0, .int .i64 0, .int .i64 0, .int .i64 0, .int .i64 0, .int .i64 0, .int .i64 0] 46))) := hid (MP.start h ho hp)
  clear h
  unfold headE
  have HP := hid (fun wz (hz : MM l E wz) => opM hz a)
  unfold owR at HP
  by_cases hc_ : onE E.W a = 0
  rotate_left
  · as_aux_lemma =>
    rw [if_neg hc_]
    rw [if_neg hc_] at HP
    generalize onE E.W a = cd at *
    have dc : (cd != 0) = true := by simpa using hc_
    have dc' : (cd == 0) = false := by simpa using hc_
    go_enter Tryz.func14, Tryz.ntmps14
    go_upto_region 1 with fail
    (try simp only [World.size_alloc, ho, hp])
    generalize hw2 : World.alloc (w.alloc _) _ = w2 at HX ⊢
    clear hw2 ho hp
    obtain ⟨o0, o1, o2, o3⟩ := HX.out.cells
    (go_wp2_with fail; refine (HP.out _ HX.out.mx.md.mm).mono ?_; rintro e_ w_ ⟨he_, hw_⟩; subst he_; have hs_ := hw_.symm; clear hw_; subst hs_)
    go_wp2_with fail
    refine (HR.out cd _).mono ?_
    rintro e w3 ⟨rfl, hb3⟩
    have HX3 := hid (HX.out.below hb3)
    clear hb3 HX o0 o1 o2 o3
    go_wp2_with (refine wpList_store_blk rfl 46 _ _ rfl p rfl (rsC cd 0 0) rfl HX3.out.mx.b rfl I0.out (rsC_one _ _ _) ?_; intro w9 HB9 HU9)
    refine bodyPost_ret (results_blk (cs := (rsC cd 0 0)) Tryz.results14 rfl agg_rs HB9.out) rfl ?_
    exact ⟨rfl, hid (HX3.out.done HU9.out)⟩
  rw [if_pos hc_]
  rw [if_pos hc_] at HP
  obtain ⟨hwo, ho_, hg_⟩ := onE_op hc_
  obtain ⟨q1, q2, q3, q4, q5, q6⟩ := opW_ok ho_ hg_
  rw [q1, q2] at HP
  clear ho_ hc_ q1 q2
  clear hwo
  generalize szN E.W (gIx a) = sz at *
  generalize rfN E.W (gIx a) = rf at *
  generalize gIx a = g at *
  go_enter Tryz.func14, Tryz.ntmps14
  go_upto_region 1 with fail
  (try simp only [World.size_alloc, ho, hp])
  generalize hw2 : World.alloc (w.alloc _) _ = w2 at HX ⊢
  clear hw2 ho hp
  obtain ⟨o0, o1, o2, o3⟩ := HX.out.cells
  (go_wp2_with fail; refine (HP.out _ HX.out.mx.md.mm).mono ?_; rintro e_ w_ ⟨he_, hw_⟩; subst he_; have hs_ := hw_.symm; clear hw_; subst hs_)
  go_wp2_with fail
  refine (ansM (sz : Int) (rf : Int) _).mono ?_
  rintro e w3 ⟨rfl, hb3⟩
  have HX3 := hid (HX.out.below hb3)
  clear hb3 HX o0 o1 o2 o3
  go_wp2_with (refine wpList_store_blk rfl 46 _ _ rfl p rfl (rsC 0 (sz : Int) (rf : Int)) rfl HX3.out.mx.b rfl I0.out (rsC_one _ _ _) ?_; intro w9 HB9 HU9)
  refine bodyPost_ret (results_blk (cs := (rsC 0 (sz : Int) (rf : Int))) Tryz.results14 rfl agg_rs HB9.out) rfl ?_
  exact ⟨rfl, hid (HX3.out.done HU9.out)⟩
set_option maxRecDepth 100000 in
set_option maxHeartbeats 1000000 in
theorem st15 (h : MM l E w) (a b c : Int) (ha : U64 a) (hb : U64 b) (hc : U64 c) : Calls Tryz.prog 14 #[.pointer (some ⟨l.m, 0, none⟩), .agg #[.int .u8 15, .int .u64 a, .int .u64 b, .int .u64 c]] w fun e w' => e = .returned (.agg (scanE E.W a).toArray) ∧ Hid (MD w l E w') := by
  have I0 := hid info_rs
  have HR := hid (fun (cd : Int) (wz : World) => refM cd wz)
  have HA := hid (fun wz => ansM 0 0 wz)
  obtain ⟨o, ho⟩ : ∃ o, w.heap.size = o := ⟨_, rfl⟩
  obtain ⟨p, hp⟩ : ∃ p, o + 1 = p := ⟨_, rfl⟩
  have HX : Hid (MP w l E o p [.int .u8 15, .int .u64 a, .int .u64 b, .int .u64 c] ((w.alloc (.cells #[.int .u8 15, .int .u64 a, .int .u64 b, .int .u64 c] 31)).alloc (.cells #[.int .u8 0, .int .u64 0, .int .u64 0, .string { data := #[] }, .int .i64 0, .int .i64 0, .int .i64 0, .int .i64 0, .int .i64 0, .int .i64 0, .int .i64 0, .int .i64 0, .int .i64 0, .int .i64 0, .int .i64 0, .int .i64 0, .int .i64 0, .int .i64 0, .int .i64 0, .int .i64 0, .int .u8 0, .int .i64 0, .int .i64 0, .int .i64 0, .int .i64 0, .int .i64 0, .int .i64 0, .int .i64 0, .int .i64 0, .int .i64 0, .int .i64 0, .int .i64 0, .int .i64 0, .int .i64 0, .int .i64 0] 46))) := hid (MP.start h ho hp)
  clear h
  unfold scanE
  have HP := hid (fun wz (hz : MM l E wz) => opM hz a)
  unfold owR at HP
  by_cases hc_ : onE E.W a = 0
  rotate_left
  · as_aux_lemma =>
    rw [if_neg hc_]
    rw [if_neg hc_] at HP
    generalize onE E.W a = cd at *
    have dc : (cd != 0) = true := by simpa using hc_
    have dc' : (cd == 0) = false := by simpa using hc_
    go_enter Tryz.func14, Tryz.ntmps14
    go_upto_region 1 with fail
    (try simp only [World.size_alloc, ho, hp])
    generalize hw2 : World.alloc (w.alloc _) _ = w2 at HX ⊢
    clear hw2 ho hp
    obtain ⟨o0, o1, o2, o3⟩ := HX.out.cells
    (go_wp2_with fail; refine (HP.out _ HX.out.mx.md.mm).mono ?_; rintro e_ w_ ⟨he_, hw_⟩; subst he_; have hs_ := hw_.symm; clear hw_; subst hs_)
    go_wp2_with fail
    refine (HR.out cd _).mono ?_
    rintro e w3 ⟨rfl, hb3⟩
    have HX3 := hid (HX.out.below hb3)
    clear hb3 HX o0 o1 o2 o3
    go_wp2_with (refine wpList_store_blk rfl 46 _ _ rfl p rfl (rsC cd 0 0) rfl HX3.out.mx.b rfl I0.out (rsC_one _ _ _) ?_; intro w9 HB9 HU9)
    refine bodyPost_ret (results_blk (cs := (rsC cd 0 0)) Tryz.results14 rfl agg_rs HB9.out) rfl ?_
    exact ⟨rfl, hid (HX3.out.done HU9.out)⟩
  rw [if_pos hc_]
  rw [if_pos hc_] at HP
  obtain ⟨hwo, ho_, hg_⟩ := onE_op hc_
  obtain ⟨q1, q2, q3, q4, q5, q6⟩ := opW_ok ho_ hg_
  rw [q1, q2] at HP
  clear ho_ hc_ q1 q2
  have hia := (wantO_ok hwo).1
  have hwi := gIx_w hwo
  have HK : Hid (∀ wz, MM l E wz → Calls Tryz.prog 102 #[.pointer (some ⟨l.m, 0, none⟩), .int .u64 a, .int .i64 0, .int .i64 ((rfN E.W (gIx a) : Nat) : Int), .bool true] wz fun e w' => e = .returned (.agg (scR E.W (2 * gIx a + 1) (rfN E.W (gIx a)) none).toArray) ∧ Hid (MD wz l E w')) := hid (fun wz hz => by
    have := scanM hz a hia 0 (rfN E.W (gIx a)) (Nat.zero_le _) (by omega) true
    rw [hwi] at this
    exact this)
  clear hwo hia hwi
  obtain ⟨R, hR⟩ : ∃ R, scR E.W (2 * gIx a + 1) (rfN E.W (gIx a)) none = R := ⟨_, rfl⟩
  have HOK : Hid (RsOk R) := hid (by rw [← hR]; exact rk_scR _ _ _ _)
  rw [hR] at HK ⊢
  clear hR
  generalize szN E.W (gIx a) = sz at *
  generalize rfN E.W (gIx a) = rf at *
  generalize gIx a = g at *
  go_enter Tryz.func14, Tryz.ntmps14
  go_upto_region 1 with fail
  (try simp only [World.size_alloc, ho, hp])
  generalize hw2 : World.alloc (w.alloc _) _ = w2 at HX ⊢
  clear hw2 ho hp
  obtain ⟨o0, o1, o2, o3⟩ := HX.out.cells
  (go_wp2_with fail; refine (HP.out _ HX.out.mx.md.mm).mono ?_; rintro e_ w_ ⟨he_, hw_⟩; subst he_; have hs_ := hw_.symm; clear hw_; subst hs_)
  go_wp2_with fail
  refine (HK.out _ HX.out.mx.md.mm).mono ?_
  rintro e w3 ⟨rfl, H3⟩
  have HX3 := hid (HX.out.step H3.out)
  clear H3 HX o0 o1 o2 o3 HK
  go_wp2_with (refine wpList_store_blk rfl 46 _ _ rfl p rfl R rfl HX3.out.mx.b (by rw [HOK.out.len]; rfl) (by rw [HOK.out.len]; exact I0.out) HOK.out.one ?_; intro w9 HB9 HU9)
  refine bodyPost_ret (results_blk (cs := R) Tryz.results14 rfl (by rw [HOK.out.len]; exact agg_rs) HB9.out) rfl ?_
  exact ⟨rfl, hid (HX3.out.done HU9.out)⟩
set_option maxRecDepth 100000 in
set_option maxHeartbeats 1000000 in
theorem st47 (h : MM l E w) (a b c : Int) (ha : U64 a) (hb : U64 b) (hc : U64 c) : Calls Tryz.prog 14 #[.pointer (some ⟨l.m, 0, none⟩), .agg #[.int .u8 47, .int .u64 a, .int .u64 b, .int .u64 c]] w fun e w' => e = .returned (.agg (hsdE E a).toArray) ∧ Hid (MD w l E w') := by
  have I0 := hid info_rs
  have HR := hid (fun (cd : Int) (wz : World) => refM cd wz)
  have HA := hid (fun wz => ansM 0 0 wz)
  obtain ⟨o, ho⟩ : ∃ o, w.heap.size = o := ⟨_, rfl⟩
  obtain ⟨p, hp⟩ : ∃ p, o + 1 = p := ⟨_, rfl⟩
  have HX : Hid (MP w l E o p [.int .u8 47, .int .u64 a, .int .u64 b, .int .u64 c] ((w.alloc (.cells #[.int .u8 47, .int .u64 a, .int .u64 b, .int .u64 c] 31)).alloc (.cells #[.int .u8 0, .int .u64 0, .int .u64 0, .string { data := #[] }, .int .i64 0, .int .i64 0, .int .i64 0, .int .i64 0, .int .i64 0, .int .i64 0, .int .i64 0, .int .i64 0, .int .i64 0, .int .i64 0, .int .i64 0, .int .i64 0, .int .i64 0, .int .i64 0, .int .i64 0, .int .i64 0, .int .u8 0, .int .i64 0, .int .i64 0, .int .i64 0, .int .i64 0, .int .i64 0, .int .i64 0, .int .i64 0, .int .i64 0, .int .i64 0, .int .i64 0, .int .i64 0, .int .i64 0, .int .i64 0, .int .i64 0] 46))) := hid (MP.start h ho hp)
  clear h
  unfold hsdE
  have HP := hid (fun wz (hz : MM l E wz) => opM hz a)
  unfold owR at HP
  by_cases hc_ : onE E.W a = 0
  rotate_left
  · as_aux_lemma =>
    rw [if_neg hc_]
    rw [if_neg hc_] at HP
    generalize onE E.W a = cd at *
    have dc : (cd != 0) = true := by simpa using hc_
    have dc' : (cd == 0) = false := by simpa using hc_
    go_enter Tryz.func14, Tryz.ntmps14
    go_upto_region 1 with fail
    (try simp only [World.size_alloc, ho, hp])
    generalize hw2 : World.alloc (w.alloc _) _ = w2 at HX ⊢
    clear hw2 ho hp
    obtain ⟨o0, o1, o2, o3⟩ := HX.out.cells
    (go_wp2_with fail; refine (HP.out _ HX.out.mx.md.mm).mono ?_; rintro e_ w_ ⟨he_, hw_⟩; subst he_; have hs_ := hw_.symm; clear hw_; subst hs_)
    go_wp2_with fail
    refine (HR.out cd _).mono ?_
    rintro e w3 ⟨rfl, hb3⟩
    have HX3 := hid (HX.out.below hb3)
    clear hb3 HX o0 o1 o2 o3
    go_wp2_with (refine wpList_store_blk rfl 46 _ _ rfl p rfl (rsC cd 0 0) rfl HX3.out.mx.b rfl I0.out (rsC_one _ _ _) ?_; intro w9 HB9 HU9)
    refine bodyPost_ret (results_blk (cs := (rsC cd 0 0)) Tryz.results14 rfl agg_rs HB9.out) rfl ?_
    exact ⟨rfl, hid (HX3.out.done HU9.out)⟩
  rw [if_pos hc_]
  rw [if_pos hc_] at HP
  obtain ⟨hwo, ho_, hg_⟩ := onE_op hc_
  obtain ⟨q1, q2, q3, q4, q5, q6⟩ := opW_ok ho_ hg_
  rw [q1, q2] at HP
  clear ho_ hc_ q1 q2
  clear hwo
  obtain ⟨s1, hs1⟩ : ∃ s1, 1 + szN E.W (gIx a) = s1 := ⟨_, rfl⟩
  obtain ⟨k, hk⟩ : ∃ k, 2 * gIx a = k := ⟨_, rfl⟩
  rw [hs1, hk]
  rw [hk] at HP q6
  have es1 : (1 : Int) + ((szN E.W (gIx a) : Nat) : Int) = (s1 : Int) := by omega
  have HH : Hid (∀ wz, MM l E wz → Calls Tryz.prog 107 #[.pointer (some ⟨l.m, 0, none⟩), .int .i64 (k : Int), .int .i64 (s1 : Int)] wz fun e w' => e = .returned (.bool (hsE E.T k s1)) ∧ w' = wz) := hid (fun wz hz => hoM hz (by omega))
  have hs1b : s1 ≤ 8193 := by omega
  clear hs1 hk
  generalize hsE E.T k s1 = bh at *
  generalize szN E.W (gIx a) = sz at *
  generalize rfN E.W (gIx a) = rf at *
  generalize gIx a = g at *
  go_enter Tryz.func14, Tryz.ntmps14
  go_upto_region 1 with fail
  (try simp only [World.size_alloc, ho, hp])
  generalize hw2 : World.alloc (w.alloc _) _ = w2 at HX ⊢
  clear hw2 ho hp
  obtain ⟨o0, o1, o2, o3⟩ := HX.out.cells
  (go_wp2_with fail; refine (HP.out _ HX.out.mx.md.mm).mono ?_; rintro e_ w_ ⟨he_, hw_⟩; subst he_; have hs_ := hw_.symm; clear hw_; subst hs_)
  (go_wp2_with fail; refine (HH.out _ HX.out.mx.md.mm).mono ?_; rintro e_ w_ ⟨he_, hw_⟩; subst he_; have hs_ := hw_.symm; clear hw_; subst hs_)
  go_wp2_with fail
  refine (truM bh _).mono ?_
  rintro e w3 ⟨rfl, hb3⟩
  have HX3 := hid (HX.out.below hb3)
  clear hb3 HX o0 o1 o2 o3
  go_wp2_with (refine wpList_store_blk rfl 46 _ _ rfl p rfl (rsC 0 ((bitN bh : Nat) : Int) 0) rfl HX3.out.mx.b rfl I0.out (rsC_one _ _ _) ?_; intro w9 HB9 HU9)
  refine bodyPost_ret (results_blk (cs := (rsC 0 ((bitN bh : Nat) : Int) 0)) Tryz.results14 rfl agg_rs HB9.out) rfl ?_
  exact ⟨rfl, hid (HX3.out.done HU9.out)⟩
set_option maxRecDepth 100000 in
set_option maxHeartbeats 1000000 in
theorem st53 (h : MM l E w) (a b c : Int) (ha : U64 a) (hb : U64 b) (hc : U64 c) : Calls Tryz.prog 14 #[.pointer (some ⟨l.m, 0, none⟩), .agg #[.int .u8 53, .int .u64 a, .int .u64 b, .int .u64 c]] w fun e w' => e = .returned (.agg (rsC 0 ((E.v : Nat) : Int) 0).toArray) ∧ Hid (MD w l E w') := by
  have I0 := hid info_rs
  have HR := hid (fun (cd : Int) (wz : World) => refM cd wz)
  have HA := hid (fun wz => ansM 0 0 wz)
  obtain ⟨o, ho⟩ : ∃ o, w.heap.size = o := ⟨_, rfl⟩
  obtain ⟨p, hp⟩ : ∃ p, o + 1 = p := ⟨_, rfl⟩
  have HX : Hid (MP w l E o p [.int .u8 53, .int .u64 a, .int .u64 b, .int .u64 c] ((w.alloc (.cells #[.int .u8 53, .int .u64 a, .int .u64 b, .int .u64 c] 31)).alloc (.cells #[.int .u8 0, .int .u64 0, .int .u64 0, .string { data := #[] }, .int .i64 0, .int .i64 0, .int .i64 0, .int .i64 0, .int .i64 0, .int .i64 0, .int .i64 0, .int .i64 0, .int .i64 0, .int .i64 0, .int .i64 0, .int .i64 0, .int .i64 0, .int .i64 0, .int .i64 0, .int .i64 0, .int .u8 0, .int .i64 0, .int .i64 0, .int .i64 0, .int .i64 0, .int .i64 0, .int .i64 0, .int .i64 0, .int .i64 0, .int .i64 0, .int .i64 0, .int .i64 0, .int .i64 0, .int .i64 0, .int .i64 0] 46))) := hid (MP.start h ho hp)
  clear h
  obtain ⟨v, hv⟩ : ∃ v, E.v = v := ⟨_, rfl⟩
  rw [hv]
  have Hv := hid hv
  clear hv
  go_enter Tryz.func14, Tryz.ntmps14
  go_upto_region 1 with fail
  (try simp only [World.size_alloc, ho, hp])
  generalize hw2 : World.alloc (w.alloc _) _ = w2 at HX ⊢
  clear hw2 ho hp
  obtain ⟨o0, o1, o2, o3⟩ := HX.out.cells
  obtain ⟨_, _, _, _, _, c5⟩ := HX.out.mx.md.mm.cells
  have hvl := HX.out.mx.md.mm.vl
  rw [Hv.out] at c5 hvl
  go_wp2_with fail
  refine (ansM (v : Int) 0 _).mono ?_
  rintro e w3 ⟨rfl, hb3⟩
  have HX3 := hid (HX.out.below hb3)
  clear hb3 HX o0 o1 o2 o3
  go_wp2_with (refine wpList_store_blk rfl 46 _ _ rfl p rfl (rsC 0 (v : Int) 0) rfl HX3.out.mx.b rfl I0.out (rsC_one _ _ _) ?_; intro w9 HB9 HU9)
  refine bodyPost_ret (results_blk (cs := (rsC 0 (v : Int) 0)) Tryz.results14 rfl agg_rs HB9.out) rfl ?_
  exact ⟨rfl, hid (HX3.out.done HU9.out)⟩
end
end Go.Proofs.Qxb6500887aGreat
