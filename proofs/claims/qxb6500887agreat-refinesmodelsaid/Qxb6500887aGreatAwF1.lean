/- Steps that the model plays itself (written by tools/mk_awc.py). -/
import Derived.Test.Qxb6500887aGreatAwC
import Derived.Deep.DeepCutAuto
namespace Go.Proofs.Qxb6500887aGreat
open Go.RowKit
set_option linter.unusedSimpArgs false
set_option linter.unusedVariables false
section
variable {l : ML} {E E' : ES} {w w' w0 w3 w4 : World} {o p r : Nat} {oc rs : List Value}
set_option maxRecDepth 100000 in
set_option maxHeartbeats 1000000 in
theorem st0 (h : MM l E w) (a b c : Int) (ha : U64 a) (hb : U64 b) (hc : U64 c) : Calls Tryz.prog 14 #[.pointer (some ⟨l.m, 0, none⟩), .agg #[.int .u8 0, .int .u64 a, .int .u64 b, .int .u64 c]] w fun e w' => e = .returned (.agg (rsG (wantW a) ((E.W (wIx a) : Nat) : Int) 0).toArray) ∧ Hid (MD w l E w') := by
  have I0 := hid info_rs
  have HR := hid (fun (cd : Int) (wz : World) => refM cd wz)
  have HA := hid (fun wz => ansM 0 0 wz)
  obtain ⟨o, ho⟩ : ∃ o, w.heap.size = o := ⟨_, rfl⟩
  obtain ⟨p, hp⟩ : ∃ p, o + 1 = p := ⟨_, rfl⟩
  have HX : Hid (MP w l E o p [.int .u8 0, .int .u64 a, .int .u64 b, .int .u64 c] ((w.alloc (.cells #[.int .u8 0, .int .u64 a, .int .u64 b, .int .u64 c] 31)).alloc (.cells #[.int .u8 0, .int .u64 0, .int .u64 0, .string { data := #[] }, .int .i64 0, .int .i64 0, .int .i64 0, .int .i64 0, .int .i64 0, .int .i64 0, .int .i64 0, .int .i64 0, .int .i64 0, .int .i64 0, .int .i64 0, .int .i64 0, .int .i64 0, .int .i64 0, .int .i64 0, .int .i64 0, .int .u8 0, .int .i64 0, .int .i64 0, .int .i64 0, .int .i64 0, .int .i64 0, .int .i64 0, .int .i64 0, .int .i64 0, .int .i64 0, .int .i64 0, .int .i64 0, .int .i64 0, .int .i64 0, .int .i64 0] 46))) := hid (MP.start h ho hp)
  clear h
  unfold rsG
  have HW := hid (fun wz => ckwM a wz)
  by_cases hz : wantW a = 0
  rotate_left
  · as_aux_lemma =>
    rw [if_neg hz]
    generalize wantW a = cd at *
    have dc : (cd != 0) = true := by simpa using hz
    have dc' : (cd == 0) = false := by simpa using hz
    clear hz
    go_enter Tryz.func14, Tryz.ntmps14
    go_upto_region 1 with fail
    (try simp only [World.size_alloc, ho, hp])
    generalize hw2 : World.alloc (w.alloc _) _ = w2 at HX ⊢
    clear hw2 ho hp
    obtain ⟨o0, o1, o2, o3⟩ := HX.out.cells
    (go_wp2_with fail; refine (HW.out _).mono ?_; rintro e_ w_ ⟨he_, hw_⟩; subst he_; have hs_ := hw_.symm; clear hw_; subst hs_)
    go_wp2_with fail
    refine (HR.out cd _).mono ?_
    rintro e w3 ⟨rfl, hb3⟩
    have HX3 := hid (HX.out.below hb3)
    clear hb3 HX o0 o1 o2 o3
    go_wp2_with (refine wpList_store_blk rfl 46 _ _ rfl p rfl (rsC cd 0 0) rfl HX3.out.mx.b rfl I0.out (rsC_one _ _ _) ?_; intro w9 HB9 HU9)
    refine bodyPost_ret (results_blk (cs := (rsC cd 0 0)) Tryz.results14 rfl agg_rs HB9.out) rfl ?_
    exact ⟨rfl, hid (HX3.out.done HU9.out)⟩
  rw [if_pos hz]
  rw [hz] at HW
  have hi : InH a := by
    unfold wantW at hz
    by_cases hi : InH a
    · exact hi
    · rw [if_neg hi] at hz; exact absurd hz (by decide)
  clear hz
  obtain ⟨k1, k2⟩ := wIx_of hi
  have HO := hid (fun wz => wofM' a hi.1 (by have := hi.2; omega) wz)
  rw [← k1] at HO
  generalize wIx a = i at *
  clear hi k1
  obtain ⟨x, hx⟩ : ∃ x, E.W i = x := ⟨_, rfl⟩
  rw [hx]
  have Hx := hid hx
  clear hx
  go_enter Tryz.func14, Tryz.ntmps14
  go_upto_region 1 with fail
  (try simp only [World.size_alloc, ho, hp])
  generalize hw2 : World.alloc (w.alloc _) _ = w2 at HX ⊢
  clear hw2 ho hp
  obtain ⟨o0, o1, o2, o3⟩ := HX.out.cells
  (go_wp2_with fail; refine (HW.out _).mono ?_; rintro e_ w_ ⟨he_, hw_⟩; subst he_; have hs_ := hw_.symm; clear hw_; subst hs_)
  go_upto_region 6 with fail
  refine wp_region_heavy (fun wz => MP w l E o p [.int .u8 0, .int .u64 a, .int .u64 b, .int .u64 c] wz) 10 [0, 1, 2, 3, 4, 5, 6, 7, 8] [9] rfl (by kernel_rfl) (by kernel_rfl) (fun d _ _ _ _ h => by cases d <;> exact h) (HX.out.below (Drew.below ⟨1, rfl⟩ _)) ?_
  apply Exists.intro
  refine ⟨?_, ?_⟩
  · intro W hW
    have d1 : ∀ x, (W x).cell? ⟨o, 1, none⟩ = some (.int .u64 a) := fun x => (hW x).op.cell 1
    have d2 : ∀ x, (W x).cell? ⟨o, 2, none⟩ = some (.int .u64 b) := fun x => (hW x).op.cell 2
    have y1 : ∀ z, (W z).cell? ⟨l.m, 0, none⟩ = some (.slice (some ⟨l.w, 0, none⟩) 32768 32768) := fun z => (hW z).mx.md.mm.cells.1
    have y2 : ∀ z, (W z).cell? ⟨l.w, i, none⟩ = some (.int .u64 (x : Int)) := fun z => by rw [← Hx.out]; exact (hW z).mx.md.mm.word k2
    clear hW
    simp only [List.take, opsAt, List.drop, List.cons_append, List.nil_append]
    repeat (go_big_quiet_step (with_reducible exact Calls.class_same (HO.out _)))
    exact rfl
  simp only [List.take, List.drop, opsAt, List.cons_append, List.nil_append, wpHv]
  have HD : Hid (MP w l E o p [.int .u8 0, .int .u64 a, .int .u64 b, .int .u64 c] w2.drew) := hid (HX.out.below (Drew.below ⟨1, rfl⟩ _))
  generalize w2.drew = wd at HD ⊢
  clear HX o0 o1 o2 o3
  go_wp2_with fail
  refine (ansM (x : Int) 0 _).mono ?_
  rintro e w3 ⟨rfl, hb3⟩
  have HX3 := hid (HD.out.below hb3)
  clear hb3 HD
  go_wp2_with fail
  refine ⟨HX3.out, ?_⟩
  simp only [QN]
  go_wp2_with (refine wpList_store_blk rfl 46 _ _ rfl p rfl (rsC 0 (x : Int) 0) rfl HX3.out.mx.b rfl I0.out (rsC_one _ _ _) ?_; intro w9 HB9 HU9)
  refine bodyPost_ret (results_blk (cs := rsC 0 (x : Int) 0) Tryz.results14 rfl agg_rs HB9.out) rfl ?_
  exact ⟨rfl, hid (HX3.out.done HU9.out)⟩
set_option maxRecDepth 100000 in
set_option maxHeartbeats 1000000 in
theorem st1 (h : MM l E w) (a b c : Int) (ha : U64 a) (hb : U64 b) (hc : U64 c) : Calls Tryz.prog 14 #[.pointer (some ⟨l.m, 0, none⟩), .agg #[.int .u8 1, .int .u64 a, .int .u64 b, .int .u64 c]] w fun e w' => e = .returned (.agg (rsC (storeE E a b).1 0 0).toArray) ∧ Hid (MD w l (storeE E a b).2 w') := by
  have I0 := hid info_rs
  have HR := hid (fun (cd : Int) (wz : World) => refM cd wz)
  have HA := hid (fun wz => ansM 0 0 wz)
  obtain ⟨o, ho⟩ : ∃ o, w.heap.size = o := ⟨_, rfl⟩
  obtain ⟨p, hp⟩ : ∃ p, o + 1 = p := ⟨_, rfl⟩
  have HX : Hid (MP w l E o p [.int .u8 1, .int .u64 a, .int .u64 b, .int .u64 c] ((w.alloc (.cells #[.int .u8 1, .int .u64 a, .int .u64 b, .int .u64 c] 31)).alloc (.cells #[.int .u8 0, .int .u64 0, .int .u64 0, .string { data := #[] }, .int .i64 0, .int .i64 0, .int .i64 0, .int .i64 0, .int .i64 0, .int .i64 0, .int .i64 0, .int .i64 0, .int .i64 0, .int .i64 0, .int .i64 0, .int .i64 0, .int .i64 0, .int .i64 0, .int .i64 0, .int .i64 0, .int .u8 0, .int .i64 0, .int .i64 0, .int .i64 0, .int .i64 0, .int .i64 0, .int .i64 0, .int .i64 0, .int .i64 0, .int .i64 0, .int .i64 0, .int .i64 0, .int .i64 0, .int .i64 0, .int .i64 0] 46))) := hid (MP.start h ho hp)
  clear h
  unfold storeE
  have HW := hid (fun wz => ckwM a wz)
  by_cases hz : wantW a = 0
  rotate_left
  · as_aux_lemma =>
    rw [if_neg hz]
    generalize wantW a = cd at *
    have dc : (cd != 0) = true := by simpa using hz
    have dc' : (cd == 0) = false := by simpa using hz
    clear hz
    go_enter Tryz.func14, Tryz.ntmps14
    go_upto_region 1 with fail
    (try simp only [World.size_alloc, ho, hp])
    generalize hw2 : World.alloc (w.alloc _) _ = w2 at HX ⊢
    clear hw2 ho hp
    obtain ⟨o0, o1, o2, o3⟩ := HX.out.cells
    (go_wp2_with fail; refine (HW.out _).mono ?_; rintro e_ w_ ⟨he_, hw_⟩; subst he_; have hs_ := hw_.symm; clear hw_; subst hs_)
    go_wp2_with fail
    refine (HR.out cd _).mono ?_
    rintro e w3 ⟨rfl, hb3⟩
    have HX3 := hid (HX.out.below hb3)
    clear hb3 HX o0 o1 o2 o3
    go_wp2_with (refine wpList_store_blk rfl 46 _ _ rfl p rfl (rsC cd 0 0) rfl HX3.out.mx.b rfl I0.out (rsC_one _ _ _) ?_; intro w9 HB9 HU9)
    refine bodyPost_ret (results_blk (cs := (rsC cd 0 0)) Tryz.results14 rfl agg_rs HB9.out) rfl ?_
    exact ⟨rfl, hid (HX3.out.done HU9.out)⟩
  rw [if_pos hz]
  rw [hz] at HW
  have hi : InH a := by
    unfold wantW at hz
    by_cases hi : InH a
    · exact hi
    · rw [if_neg hi] at hz; exact absurd hz (by decide)
  clear hz
  obtain ⟨k1, k2⟩ := wIx_of hi
  have HO := hid (fun wz => wofM' a hi.1 (by have := hi.2; omega) wz)
  rw [← k1] at HO
  generalize wIx a = i at *
  clear hi k1
  obtain ⟨x, hxx⟩ : ∃ x : Nat, b = (x : Int) := ⟨b.toNat, by have := hb.1; omega⟩
  have hxb : x < 18446744073709551616 := by have := hb.2; omega
  subst hxx
  rw [show ((x : Int)).toNat = x by omega]
  go_enter Tryz.func14, Tryz.ntmps14
  go_upto_region 1 with fail
  (try simp only [World.size_alloc, ho, hp])
  generalize hw2 : World.alloc (w.alloc _) _ = w2 at HX ⊢
  clear hw2 ho hp
  obtain ⟨o0, o1, o2, o3⟩ := HX.out.cells
  (go_wp2_with fail; refine (HW.out _).mono ?_; rintro e_ w_ ⟨he_, hw_⟩; subst he_; have hs_ := hw_.symm; clear hw_; subst hs_)
  obtain ⟨_, _, _, _, _, c5⟩ := HX.out.mx.md.mm.cells
  have f5 := HX.out.mx.md.mm.m.frozen 5
  have HX2 := hid HX.out.ver
  have vw := ver_wrap E.v
  generalize ((E.v + 1) % 18446744073709551616 : Nat) = v1 at vw HX2
  clear HX
  go_upto_region 12 with fail
  clear c5 f5 o0 o1 o2 o3
  generalize hw3 : World.setCell _ _ _ = w3 at HX2 ⊢
  clear hw3 vw
  obtain ⟨o0, o1, o2, o3⟩ := HX2.out.cells
  obtain ⟨X', W, HTT, H0, hne, HCl⟩ := class_below w3
  have y1 : ∀ z, (W z).cell? ⟨l.m, 0, none⟩ = some (.slice (some ⟨l.w, 0, none⟩) 32768 32768) := fun z => (HX2.out.below (HTT.out z)).mx.md.mm.cells.1
  have y3 : ∀ z, (W z).cell? ⟨o, 1, none⟩ = some (.int .u64 a) := fun z => (HX2.out.below (HTT.out z)).op.cell 1
  have y4 : ∀ z, (W z).cell? ⟨o, 2, none⟩ = some (.int .u64 (x : Int)) := fun z => (HX2.out.below (HTT.out z)).op.cell 2
  refine wp_region_class_lastT W rfl (by kernel_rfl) (by kernel_rfl) (by kernel_rfl) H0.out ?_
  dsimp only [List.dropLast, List.getLast]
  repeat (go_big_quiet_step (with_reducible exact Calls.class_same (HO.out _)))
  refine wpQuiet_nil ?_
  intro z
  have HZ := hid (HX2.out.below (HTT.out z))
  generalize W z = wz at HZ ⊢
  clear y1 y3 y4 H0 HTT HCl hne HX2 o0 o1 o2 o3
  obtain ⟨cv, cz⟩ : ∃ cv, wz.cell? ⟨l.w, i, none⟩ = some cv := ⟨_, HZ.out.mx.md.mm.word k2⟩
  have fz := HZ.out.mx.md.mm.ws.frozen i
  have HF := hid (HZ.out.step ((MD.start HZ.out.mx.md.mm).putW (i := i) (x := x) k2 hxb))
  clear HZ
  go_upto_region 13 with fail
  generalize hw4 : World.setCell _ _ _ = w4 at HF ⊢
  clear hw4 cz fz
  obtain ⟨o0, o1, o2, o3⟩ := HF.out.cells
  go_wp2_with fail
  refine (HA.out _).mono ?_
  rintro e w3 ⟨rfl, hb3⟩
  have HX3 := hid (HF.out.below hb3)
  clear hb3 HF o0 o1 o2 o3
  go_wp2_with (refine wpList_store_blk rfl 46 _ _ rfl p rfl (rsC 0 0 0) rfl HX3.out.mx.b rfl I0.out (rsC_one _ _ _) ?_; intro w9 HB9 HU9)
  refine bodyPost_ret (results_blk (cs := (rsC 0 0 0)) Tryz.results14 rfl agg_rs HB9.out) rfl ?_
  exact ⟨rfl, hid (HX3.out.done HU9.out)⟩
set_option maxRecDepth 100000 in
set_option maxHeartbeats 1000000 in
theorem st5 (h : MM l E w) (a b c : Int) (ha : U64 a) (hb : U64 b) (hc : U64 c) : Calls Tryz.prog 14 #[.pointer (some ⟨l.m, 0, none⟩), .agg #[.int .u8 5, .int .u64 a, .int .u64 b, .int .u64 c]] w fun e w' => e = .returned (.agg (decE a).toArray) ∧ Hid (MD w l E w') := by
  have I0 := hid info_rs
  have HR := hid (fun (cd : Int) (wz : World) => refM cd wz)
  have HA := hid (fun wz => ansM 0 0 wz)
  obtain ⟨o, ho⟩ : ∃ o, w.heap.size = o := ⟨_, rfl⟩
  obtain ⟨p, hp⟩ : ∃ p, o + 1 = p := ⟨_, rfl⟩
  have HX : Hid (MP w l E o p [.int .u8 5, .int .u64 a, .int .u64 b, .int .u64 c] ((w.alloc (.cells #[.int .u8 5, .int .u64 a, .int .u64 b, .int .u64 c] 31)).alloc (.cells #[.int .u8 0, .int .u64 0, .int .u64 0, .string { data := #[] }, .int .i64 0, .int .i64 0, .int .i64 0, .int .i64 0, .int .i64 0, .int .i64 0, .int .i64 0, .int .i64 0, .int .i64 0, .int .i64 0, .int .i64 0, .int .i64 0, .int .i64 0, .int .i64 0, .int .i64 0, .int .i64 0, .int .u8 0, .int .i64 0, .int .i64 0, .int .i64 0, .int .i64 0, .int .i64 0, .int .i64 0, .int .i64 0, .int .i64 0, .int .i64 0, .int .i64 0, .int .i64 0, .int .i64 0, .int .i64 0, .int .i64 0] 46))) := hid (MP.start h ho hp)
  clear h
  unfold decE
  have HH := hid (fun wz => hdM a ha.1 ha.2 wz)
  by_cases hh : isHdr a
  rotate_left
  · as_aux_lemma =>
    rw [if_neg hh]
    rw [decide_eq_false hh] at HH
    generalize decSize a = sz at *
    generalize decRefs a = rf at *
    clear hh
    go_enter Tryz.func14, Tryz.ntmps14
    go_upto_region 1 with fail
    (try simp only [World.size_alloc, ho, hp])
    generalize hw2 : World.alloc (w.alloc _) _ = w2 at HX ⊢
    clear hw2 ho hp
    obtain ⟨o0, o1, o2, o3⟩ := HX.out.cells
    (go_wp2_with fail; refine (HH.out _).mono ?_; rintro e_ w_ ⟨he_, hw_⟩; subst he_; have hs_ := hw_.symm; clear hw_; subst hs_)
    go_wp2_with fail
    refine (HR.out 6 _).mono ?_
    rintro e w3 ⟨rfl, hb3⟩
    have HX3 := hid (HX.out.below hb3)
    clear hb3 HX o0 o1 o2 o3
    go_wp2_with (refine wpList_store_blk rfl 46 _ _ rfl p rfl (rsC 6 0 0) rfl HX3.out.mx.b rfl I0.out (rsC_one _ _ _) ?_; intro w9 HB9 HU9)
    refine bodyPost_ret (results_blk (cs := (rsC 6 0 0)) Tryz.results14 rfl agg_rs HB9.out) rfl ?_
    exact ⟨rfl, hid (HX3.out.done HU9.out)⟩
  rw [if_pos hh]
  rw [decide_eq_true hh] at HH
  have r1 : 0 ≤ decSize a ∧ decSize a < 65536 := by unfold decSize; omega
  have r2 : 0 ≤ decRefs a ∧ decRefs a < 65536 := by unfold decRefs; omega
  generalize decSize a = sz at *
  generalize decRefs a = rf at *
  clear hh
  go_enter Tryz.func14, Tryz.ntmps14
  go_upto_region 1 with fail
  (try simp only [World.size_alloc, ho, hp])
  generalize hw2 : World.alloc (w.alloc _) _ = w2 at HX ⊢
  clear hw2 ho hp
  obtain ⟨o0, o1, o2, o3⟩ := HX.out.cells
  (go_wp2_with fail; refine (HH.out _).mono ?_; rintro e_ w_ ⟨he_, hw_⟩; subst he_; have hs_ := hw_.symm; clear hw_; subst hs_)
  go_wp2_with fail
  refine (ansM sz rf _).mono ?_
  rintro e w3 ⟨rfl, hb3⟩
  have HX3 := hid (HX.out.below hb3)
  clear hb3 HX o0 o1 o2 o3
  go_wp2_with (refine wpList_store_blk rfl 46 _ _ rfl p rfl (rsC 0 sz rf) rfl HX3.out.mx.b rfl I0.out (rsC_one _ _ _) ?_; intro w9 HB9 HU9)
  refine bodyPost_ret (results_blk (cs := (rsC 0 sz rf)) Tryz.results14 rfl agg_rs HB9.out) rfl ?_
  exact ⟨rfl, hid (HX3.out.done HU9.out)⟩
set_option maxRecDepth 100000 in
set_option maxHeartbeats 4000000 in
theorem stRest (h : MM l E w) (k : Nat) (hk : k ∉ [0, 1, 2, 3, 42, 43, 4, 5, 6, 7, 8, 9, 11, 12, 10, 13, 14, 15, 44, 45, 46, 47, 16, 17, 23, 24, 25, 18, 19, 20, 21, 22, 26, 27, 28, 29, 30, 31, 32, 33, 48, 49, 34, 35, 50, 36, 37, 39, 38, 52, 51, 64, 65, 66, 53, 54, 62, 63]) (hk2 : k ∉ [40, 41, 59, 61, 60, 55, 56, 58, 57]) (a b c : Int) : Calls Tryz.prog 14 #[.pointer (some ⟨l.m, 0, none⟩), .agg #[.int .u8 (k : Int), .int .u64 a, .int .u64 b, .int .u64 c]] w fun e w' => e = .returned (.agg (rsC 11 0 0).toArray) ∧ Hid (MD w l E w') := by
  have I0 := hid info_rs
  have HK := hid (fun wz (hz : MM l E wz) => svRest hz k hk2 a b c)
  obtain ⟨o, ho⟩ : ∃ o, w.heap.size = o := ⟨_, rfl⟩
  obtain ⟨p, hp⟩ : ∃ p, o + 1 = p := ⟨_, rfl⟩
  have HX : Hid (MP w l E o p [.int .u8 (k : Int), .int .u64 a, .int .u64 b, .int .u64 c] ((w.alloc (.cells #[.int .u8 (k : Int), .int .u64 a, .int .u64 b, .int .u64 c] 31)).alloc (.cells #[.int .u8 0, .int .u64 0, .int .u64 0, .string { data := #[] }, .int .i64 0, .int .i64 0, .int .i64 0, .int .i64 0, .int .i64 0, .int .i64 0, .int .i64 0, .int .i64 0, .int .i64 0, .int .i64 0, .int .i64 0, .int .i64 0, .int .i64 0, .int .i64 0, .int .i64 0, .int .i64 0, .int .u8 0, .int .i64 0, .int .i64 0, .int .i64 0, .int .i64 0, .int .i64 0, .int .i64 0, .int .i64 0, .int .i64 0, .int .i64 0, .int .i64 0, .int .i64 0, .int .i64 0, .int .i64 0, .int .i64 0] 46))) := hid (MP.start h ho hp)
  clear h hk2
  simp only [List.mem_cons, List.not_mem_nil, or_false, not_or] at hk
  obtain ⟨n0, n1, n2, n3, n42, n43, n4, n5, n6, n7, n8, n9, n11, n12, n10, n13, n14, n15, n44, n45, n46, n47, n16, n17, n23, n24, n25, n18, n19, n20, n21, n22, n26, n27, n28, n29, n30, n31, n32, n33, n48, n49, n34, n35, n50, n36, n37, n39, n38, n52, n51, n64, n65, n66, n53, n54, n62, n63⟩ := hk
  have d0 : ((k : Int) == 0) = false := by simp; omega
  have d1 : ((k : Int) == 1) = false := by simp; omega
  have d2 : ((k : Int) == 2) = false := by simp; omega
  have d3 : ((k : Int) == 3) = false := by simp; omega
  have d42 : ((k : Int) == 42) = false := by simp; omega
  have d43 : ((k : Int) == 43) = false := by simp; omega
  have d4 : ((k : Int) == 4) = false := by simp; omega
  have d5 : ((k : Int) == 5) = false := by simp; omega
  have d6 : ((k : Int) == 6) = false := by simp; omega
  have d7 : ((k : Int) == 7) = false := by simp; omega
  have d8 : ((k : Int) == 8) = false := by simp; omega
  have d9 : ((k : Int) == 9) = false := by simp; omega
  have d11 : ((k : Int) == 11) = false := by simp; omega
  have d12 : ((k : Int) == 12) = false := by simp; omega
  have d10 : ((k : Int) == 10) = false := by simp; omega
  have d13 : ((k : Int) == 13) = false := by simp; omega
  have d14 : ((k : Int) == 14) = false := by simp; omega
  have d15 : ((k : Int) == 15) = false := by simp; omega
  have d44 : ((k : Int) == 44) = false := by simp; omega
  have d45 : ((k : Int) == 45) = false := by simp; omega
  have d46 : ((k : Int) == 46) = false := by simp; omega
  have d47 : ((k : Int) == 47) = false := by simp; omega
  have d16 : ((k : Int) == 16) = false := by simp; omega
  have d17 : ((k : Int) == 17) = false := by simp; omega
  have d23 : ((k : Int) == 23) = false := by simp; omega
  have d24 : ((k : Int) == 24) = false := by simp; omega
  have d25 : ((k : Int) == 25) = false := by simp; omega
  have d18 : ((k : Int) == 18) = false := by simp; omega
  have d19 : ((k : Int) == 19) = false := by simp; omega
  have d20 : ((k : Int) == 20) = false := by simp; omega
  have d21 : ((k : Int) == 21) = false := by simp; omega
  have d22 : ((k : Int) == 22) = false := by simp; omega
  have d26 : ((k : Int) == 26) = false := by simp; omega
  have d27 : ((k : Int) == 27) = false := by simp; omega
  have d28 : ((k : Int) == 28) = false := by simp; omega
  have d29 : ((k : Int) == 29) = false := by simp; omega
  have d30 : ((k : Int) == 30) = false := by simp; omega
  have d31 : ((k : Int) == 31) = false := by simp; omega
  have d32 : ((k : Int) == 32) = false := by simp; omega
  have d33 : ((k : Int) == 33) = false := by simp; omega
  have d48 : ((k : Int) == 48) = false := by simp; omega
  have d49 : ((k : Int) == 49) = false := by simp; omega
  have d34 : ((k : Int) == 34) = false := by simp; omega
  have d35 : ((k : Int) == 35) = false := by simp; omega
  have d50 : ((k : Int) == 50) = false := by simp; omega
  have d36 : ((k : Int) == 36) = false := by simp; omega
  have d37 : ((k : Int) == 37) = false := by simp; omega
  have d39 : ((k : Int) == 39) = false := by simp; omega
  have d38 : ((k : Int) == 38) = false := by simp; omega
  have d52 : ((k : Int) == 52) = false := by simp; omega
  have d51 : ((k : Int) == 51) = false := by simp; omega
  have d64 : ((k : Int) == 64) = false := by simp; omega
  have d65 : ((k : Int) == 65) = false := by simp; omega
  have d66 : ((k : Int) == 66) = false := by simp; omega
  have d53 : ((k : Int) == 53) = false := by simp; omega
  have d54 : ((k : Int) == 54) = false := by simp; omega
  have d62 : ((k : Int) == 62) = false := by simp; omega
  have d63 : ((k : Int) == 63) = false := by simp; omega
  clear n0 n1 n2 n3 n42 n43 n4 n5 n6 n7 n8 n9 n11 n12 n10 n13 n14 n15 n44 n45 n46 n47 n16 n17 n23 n24 n25 n18 n19 n20 n21 n22 n26 n27 n28 n29 n30 n31 n32 n33 n48 n49 n34 n35 n50 n36 n37 n39 n38 n52 n51 n64 n65 n66 n53 n54 n62 n63
  obtain ⟨R, hR⟩ : ∃ R, rsC 11 0 0 = R := ⟨_, rfl⟩
  have HOK : Hid (RsOk R) := hid (by rw [← hR]; exact RsOk.c _ _ _)
  rw [hR] at HK ⊢
  clear hR
  go_enter Tryz.func14, Tryz.ntmps14
  go_upto_region 1 with fail
  (try simp only [World.size_alloc, ho, hp])
  generalize hw2 : World.alloc (w.alloc _) _ = w2 at HX ⊢
  clear hw2 ho hp
  obtain ⟨o0, o1, o2, o3⟩ := HX.out.cells
  go_wp2_with fail
  refine (HK.out _ HX.out.mx.md.mm).mono ?_
  rintro e w3 ⟨rfl, H3⟩
  have HX3 := hid (HX.out.step H3.out)
  clear H3 HX o0 o1 o2 o3 HK
  go_wp2_with (refine wpList_store_blk rfl 46 _ _ rfl p rfl R rfl HX3.out.mx.b (by rw [HOK.out.len]; rfl) (by rw [HOK.out.len]; exact I0.out) HOK.out.one ?_; intro w9 HB9 HU9)
  refine bodyPost_ret (results_blk (cs := R) Tryz.results14 rfl (by rw [HOK.out.len]; exact agg_rs) HB9.out) rfl ?_
  exact ⟨rfl, hid (HX3.out.done HU9.out)⟩
end
end Go.Proofs.Qxb6500887aGreat
