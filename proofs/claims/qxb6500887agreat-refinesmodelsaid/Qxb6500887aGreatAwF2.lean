/- Steps that the model plays itself (written by tools/mk_awc.py). -/
import Derived.Test.Qxb6500887aGreatAwC
import Derived.Deep.DeepCutAuto
namespace Go.Proofs.Qxb6500887aGreat
open Go.RowKit
set_option linter.unusedSimpArgs false
set_option linter.unusedVariables false
section
variable {l : ML} {E E' : ES} {w w' w0 w3 w4 : World} {o p r : Nat} {oc rs : List Value}
set_option maxRecDepth 100000 in
set_option maxHeartbeats 1000000 in
theorem st42 (h : MM l E w) (a b c : Int) (ha : U64 a) (hb : U64 b) (hc : U64 c) : Calls Tryz.prog 14 #[.pointer (some ⟨l.m, 0, none⟩), .agg #[.int .u8 42, .int .u64 a, .int .u64 b, .int .u64 c]] w fun e w' => e = .returned (.agg (refAtE E a).toArray) ∧ Hid (MD w l E w') := by
  have I0 := hid info_rs
  have HR := hid (fun (cd : Int) (wz : World) => refM cd wz)
  have HA := hid (fun wz => ansM 0 0 wz)
  obtain ⟨o, ho⟩ : ∃ o, w.heap.size = o := ⟨_, rfl⟩
  obtain ⟨p, hp⟩ : ∃ p, o + 1 = p := ⟨_, rfl⟩
  have HX : Hid (MP w l E o p [.int .u8 42, .int .u64 a, .int .u64 b, .int .u64 c] ((w.alloc (.cells #[.int .u8 42, .int .u64 a, .int .u64 b, .int .u64 c] 31)).alloc (.cells #[.int .u8 0, .int .u64 0, .int .u64 0, .string { data := #[] }, .int .i64 0, .int .i64 0, .int .i64 0, .int .i64 0, .int .i64 0, .int .i64 0, .int .i64 0, .int .i64 0, .int .i64 0, .int .i64 0, .int .i64 0, .int .i64 0, .int .i64 0, .int .i64 0, .int .i64 0, .int .i64 0, .int .u8 0, .int .i64 0, .int .i64 0, .int .i64 0, .int .i64 0, .int .i64 0, .int .i64 0, .int .i64 0, .int .i64 0, .int .i64 0, .int .i64 0, .int .i64 0, .int .i64 0, .int .i64 0, .int .i64 0] 46))) := hid (MP.start h ho hp)
  clear h
  unfold refAtE
  have HW := hid (fun wz => ckwM a wz)
  by_cases hz : wantW a = 0
  rotate_left
  · as_aux_lemma =>
    rw [if_neg hz]
    generalize wantW a = cd at *
    have dc : (cd != 0) = true := by simpa using hz
    have dc' : (cd == 0) = false := by simpa using hz
    clear hz
    go_enter Tryz.func14, Tryz.ntmps14
    go_upto_region 1 with fail
    (try simp only [World.size_alloc, ho, hp])
    generalize hw2 : World.alloc (w.alloc _) _ = w2 at HX ⊢
    clear hw2 ho hp
    obtain ⟨o0, o1, o2, o3⟩ := HX.out.cells
    (go_wp2_with fail; refine (HW.out _).mono ?_; rintro e_ w_ ⟨he_, hw_⟩; subst he_; have hs_ := hw_.symm; clear hw_; subst hs_)
    go_wp2_with fail
    refine (HR.out cd _).mono ?_
    rintro e w3 ⟨rfl, hb3⟩
    have HX3 := hid (HX.out.below hb3)
    clear hb3 HX o0 o1 o2 o3
    go_wp2_with (refine wpList_store_blk rfl 46 _ _ rfl p rfl (rsC cd 0 0) rfl HX3.out.mx.b rfl I0.out (rsC_one _ _ _) ?_; intro w9 HB9 HU9)
    refine bodyPost_ret (results_blk (cs := (rsC cd 0 0)) Tryz.results14 rfl agg_rs HB9.out) rfl ?_
    exact ⟨rfl, hid (HX3.out.done HU9.out)⟩
  rw [if_pos hz]
  rw [hz] at HW
  have hi : InH a := by
    unfold wantW at hz
    by_cases hi : InH a
    · exact hi
    · rw [if_neg hi] at hz; exact absurd hz (by decide)
  clear hz
  obtain ⟨k1, k2⟩ := wIx_of hi
  have HO := hid (fun wz => wofM' a hi.1 (by have := hi.2; omega) wz)
  rw [← k1] at HO
  generalize wIx a = i at *
  clear hi k1
  obtain ⟨x, hx⟩ : ∃ x, E.W i = x := ⟨_, rfl⟩
  rw [hx]
  have HI := hid (fun wz => refOkM (x : Int) wz)
  have Hx := hid hx
  by_cases hr : rfOk (x : Int)
  rotate_left
  · as_aux_lemma =>
    rw [if_neg hr]
    rw [decide_eq_false hr] at HI
    clear hr
    go_enter Tryz.func14, Tryz.ntmps14
    go_upto_region 1 with fail
    (try simp only [World.size_alloc, ho, hp])
    generalize hw2 : World.alloc (w.alloc _) _ = w2 at HX ⊢
    clear hw2 ho hp
    obtain ⟨o0, o1, o2, o3⟩ := HX.out.cells
    (go_wp2_with fail; refine (HW.out _).mono ?_; rintro e_ w_ ⟨he_, hw_⟩; subst he_; have hs_ := hw_.symm; clear hw_; subst hs_)
    go_upto_region 22 with fail
    obtain ⟨X', W, HTT, H0, hne, HCl⟩ := class_below w2
    have y1 : ∀ z, (W z).cell? ⟨l.m, 0, none⟩ = some (.slice (some ⟨l.w, 0, none⟩) 32768 32768) := fun z => (HX.out.below (HTT.out z)).mx.md.mm.cells.1
    have y2 : ∀ z, (W z).cell? ⟨l.w, i, none⟩ = some (.int .u64 (x : Int)) := fun z => by rw [← hx]; exact (HX.out.below (HTT.out z)).mx.md.mm.word k2
    have y3 : ∀ z, (W z).cell? ⟨o, 1, none⟩ = some (.int .u64 a) := fun z => (HX.out.below (HTT.out z)).op.cell 1
    clear hx
    refine wp_region_class_lastT W rfl (by kernel_rfl) (by kernel_rfl) (by kernel_rfl) H0.out ?_
    dsimp only [List.dropLast, List.getLast]
    repeat (go_big_quiet_step (first | with_reducible exact Calls.class_same (HO.out _) | with_reducible exact Calls.class_same (HI.out _)))
    refine wpQuiet_nil ?_
    intro z
    have HZ := hid (HX.out.below (HTT.out z))
    generalize W z = wz at HZ ⊢
    clear y1 y2 y3 H0 HTT HCl hne HX o0 o1 o2 o3
    obtain ⟨o0, o1, o2, o3⟩ := HZ.out.cells
    go_wp2_with fail
    refine (HR.out 9 _).mono ?_
    rintro e w3 ⟨rfl, hb3⟩
    have HX3 := hid (HZ.out.below hb3)
    clear hb3 HZ o0 o1 o2 o3
    go_wp2_with (refine wpList_store_blk rfl 46 _ _ rfl p rfl (rsC 9 0 0) rfl HX3.out.mx.b rfl I0.out (rsC_one _ _ _) ?_; intro w9 HB9 HU9)
    refine bodyPost_ret (results_blk (cs := (rsC 9 0 0)) Tryz.results14 rfl agg_rs HB9.out) rfl ?_
    exact ⟨rfl, hid (HX3.out.done HU9.out)⟩
  rw [if_pos hr]
  rw [decide_eq_true hr] at HI
  clear hr
  go_enter Tryz.func14, Tryz.ntmps14
  go_upto_region 1 with fail
  (try simp only [World.size_alloc, ho, hp])
  generalize hw2 : World.alloc (w.alloc _) _ = w2 at HX ⊢
  clear hw2 ho hp
  obtain ⟨o0, o1, o2, o3⟩ := HX.out.cells
  (go_wp2_with fail; refine (HW.out _).mono ?_; rintro e_ w_ ⟨he_, hw_⟩; subst he_; have hs_ := hw_.symm; clear hw_; subst hs_)
  go_upto_region 22 with fail
  obtain ⟨X', W, HTT, H0, hne, HCl⟩ := class_below w2
  have y1 : ∀ z, (W z).cell? ⟨l.m, 0, none⟩ = some (.slice (some ⟨l.w, 0, none⟩) 32768 32768) := fun z => (HX.out.below (HTT.out z)).mx.md.mm.cells.1
  have y2 : ∀ z, (W z).cell? ⟨l.w, i, none⟩ = some (.int .u64 (x : Int)) := fun z => by rw [← hx]; exact (HX.out.below (HTT.out z)).mx.md.mm.word k2
  have y3 : ∀ z, (W z).cell? ⟨o, 1, none⟩ = some (.int .u64 a) := fun z => (HX.out.below (HTT.out z)).op.cell 1
  clear hx
  refine wp_region_class_lastT W rfl (by kernel_rfl) (by kernel_rfl) (by kernel_rfl) H0.out ?_
  dsimp only [List.dropLast, List.getLast]
  repeat (go_big_quiet_step (first | with_reducible exact Calls.class_same (HO.out _) | with_reducible exact Calls.class_same (HI.out _)))
  refine wpQuiet_nil ?_
  intro z
  have HZ := hid (HX.out.below (HTT.out z))
  generalize W z = wz at HZ ⊢
  clear y1 y2 y3 H0 HTT HCl hne HX o0 o1 o2 o3
  obtain ⟨o0, o1, o2, o3⟩ := HZ.out.cells
  go_upto_region 24 with fail
  refine wp_region_heavy (fun wz => MP w l E o p [.int .u8 42, .int .u64 a, .int .u64 b, .int .u64 c] wz) 10 [0, 1, 2, 3, 4, 5, 6, 7, 8] [9] rfl (by kernel_rfl) (by kernel_rfl) (fun d _ _ _ _ h => by cases d <;> exact h) (HZ.out.below (Drew.below ⟨1, rfl⟩ _)) ?_
  apply Exists.intro
  refine ⟨?_, ?_⟩
  · intro W hW
    have d1 : ∀ x, (W x).cell? ⟨o, 1, none⟩ = some (.int .u64 a) := fun x => (hW x).op.cell 1
    have d2 : ∀ x, (W x).cell? ⟨o, 2, none⟩ = some (.int .u64 b) := fun x => (hW x).op.cell 2
    have y1 : ∀ z, (W z).cell? ⟨l.m, 0, none⟩ = some (.slice (some ⟨l.w, 0, none⟩) 32768 32768) := fun z => (hW z).mx.md.mm.cells.1
    have y2 : ∀ z, (W z).cell? ⟨l.w, i, none⟩ = some (.int .u64 (x : Int)) := fun z => by rw [← Hx.out]; exact (hW z).mx.md.mm.word k2
    clear hW
    simp only [List.take, opsAt, List.drop, List.cons_append, List.nil_append]
    repeat (go_big_quiet_step (with_reducible exact Calls.class_same (HO.out _)))
    exact rfl
  simp only [List.take, List.drop, opsAt, List.cons_append, List.nil_append, wpHv]
  have HD : Hid (MP w l E o p [.int .u8 42, .int .u64 a, .int .u64 b, .int .u64 c] wz.drew) := hid (HZ.out.below (Drew.below ⟨1, rfl⟩ _))
  generalize wz.drew = wd at HD ⊢
  clear HZ o0 o1 o2 o3
  go_wp2_with fail
  refine (ansM (x : Int) 0 _).mono ?_
  rintro e w3 ⟨rfl, hb3⟩
  have HX3 := hid (HD.out.below hb3)
  clear hb3 HD
  go_wp2_with fail
  refine ⟨HX3.out, ?_⟩
  simp only [QN]
  go_wp2_with (refine wpList_store_blk rfl 46 _ _ rfl p rfl (rsC 0 (x : Int) 0) rfl HX3.out.mx.b rfl I0.out (rsC_one _ _ _) ?_; intro w9 HB9 HU9)
  refine bodyPost_ret (results_blk (cs := rsC 0 (x : Int) 0) Tryz.results14 rfl agg_rs HB9.out) rfl ?_
  exact ⟨rfl, hid (HX3.out.done HU9.out)⟩
set_option maxRecDepth 100000 in
set_option maxHeartbeats 1000000 in
theorem st43 (h : MM l E w) (a b c : Int) (ha : U64 a) (hb : U64 b) (hc : U64 c) : Calls Tryz.prog 14 #[.pointer (some ⟨l.m, 0, none⟩), .agg #[.int .u8 43, .int .u64 a, .int .u64 b, .int .u64 c]] w fun e w' => e = .returned (.agg (rsC (setRefE E a b).1 0 0).toArray) ∧ Hid (MD w l (setRefE E a b).2 w') := by
  have I0 := hid info_rs
  have HR := hid (fun (cd : Int) (wz : World) => refM cd wz)
  have HA := hid (fun wz => ansM 0 0 wz)
  obtain ⟨o, ho⟩ : ∃ o, w.heap.size = o := ⟨_, rfl⟩
  obtain ⟨p, hp⟩ : ∃ p, o + 1 = p := ⟨_, rfl⟩
  have HX : Hid (MP w l E o p [.int .u8 43, .int .u64 a, .int .u64 b, .int .u64 c] ((w.alloc (.cells #[.int .u8 43, .int .u64 a, .int .u64 b, .int .u64 c] 31)).alloc (.cells #[.int .u8 0, .int .u64 0, .int .u64 0, .string { data := #[] }, .int .i64 0, .int .i64 0, .int .i64 0, .int .i64 0, .int .i64 0, .int .i64 0, .int .i64 0, .int .i64 0, .int .i64 0, .int .i64 0, .int .i64 0, .int .i64 0, .int .i64 0, .int .i64 0, .int .i64 0, .int .i64 0, .int .u8 0, .int .i64 0, .int .i64 0, .int .i64 0, .int .i64 0, .int .i64 0, .int .i64 0, .int .i64 0, .int .i64 0, .int .i64 0, .int .i64 0, .int .i64 0, .int .i64 0, .int .i64 0, .int .i64 0] 46))) := hid (MP.start h ho hp)
  clear h
  unfold setRefE
  have HW := hid (fun wz => ckwM a wz)
  by_cases hz : wantW a = 0
  rotate_left
  · as_aux_lemma =>
    rw [if_neg hz]
    generalize wantW a = cd at *
    have dc : (cd != 0) = true := by simpa using hz
    have dc' : (cd == 0) = false := by simpa using hz
    clear hz
    go_enter Tryz.func14, Tryz.ntmps14
    go_upto_region 1 with fail
    (try simp only [World.size_alloc, ho, hp])
    generalize hw2 : World.alloc (w.alloc _) _ = w2 at HX ⊢
    clear hw2 ho hp
    obtain ⟨o0, o1, o2, o3⟩ := HX.out.cells
    (go_wp2_with fail; refine (HW.out _).mono ?_; rintro e_ w_ ⟨he_, hw_⟩; subst he_; have hs_ := hw_.symm; clear hw_; subst hs_)
    go_wp2_with fail
    refine (HR.out cd _).mono ?_
    rintro e w3 ⟨rfl, hb3⟩
    have HX3 := hid (HX.out.below hb3)
    clear hb3 HX o0 o1 o2 o3
    go_wp2_with (refine wpList_store_blk rfl 46 _ _ rfl p rfl (rsC cd 0 0) rfl HX3.out.mx.b rfl I0.out (rsC_one _ _ _) ?_; intro w9 HB9 HU9)
    refine bodyPost_ret (results_blk (cs := (rsC cd 0 0)) Tryz.results14 rfl agg_rs HB9.out) rfl ?_
    exact ⟨rfl, hid (HX3.out.done HU9.out)⟩
  rw [if_pos hz]
  rw [hz] at HW
  have hi : InH a := by
    unfold wantW at hz
    by_cases hi : InH a
    · exact hi
    · rw [if_neg hi] at hz; exact absurd hz (by decide)
  clear hz
  obtain ⟨k1, k2⟩ := wIx_of hi
  have HO := hid (fun wz => wofM' a hi.1 (by have := hi.2; omega) wz)
  rw [← k1] at HO
  generalize wIx a = i at *
  clear hi k1
  have HI := hid (fun wz => refOkM b wz)
  by_cases hr : rfOk b
  rotate_left
  · as_aux_lemma =>
    rw [if_neg hr]
    rw [decide_eq_false hr] at HI
    clear hr
    go_enter Tryz.func14, Tryz.ntmps14
    go_upto_region 1 with fail
    (try simp only [World.size_alloc, ho, hp])
    generalize hw2 : World.alloc (w.alloc _) _ = w2 at HX ⊢
    clear hw2 ho hp
    obtain ⟨o0, o1, o2, o3⟩ := HX.out.cells
    (go_wp2_with fail; refine (HW.out _).mono ?_; rintro e_ w_ ⟨he_, hw_⟩; subst he_; have hs_ := hw_.symm; clear hw_; subst hs_)
    (go_wp2_with fail; refine (HI.out _).mono ?_; rintro e_ w_ ⟨he_, hw_⟩; subst he_; have hs_ := hw_.symm; clear hw_; subst hs_)
    go_wp2_with fail
    refine (HR.out 9 _).mono ?_
    rintro e w3 ⟨rfl, hb3⟩
    have HX3 := hid (HX.out.below hb3)
    clear hb3 HX o0 o1 o2 o3
    go_wp2_with (refine wpList_store_blk rfl 46 _ _ rfl p rfl (rsC 9 0 0) rfl HX3.out.mx.b rfl I0.out (rsC_one _ _ _) ?_; intro w9 HB9 HU9)
    refine bodyPost_ret (results_blk (cs := (rsC 9 0 0)) Tryz.results14 rfl agg_rs HB9.out) rfl ?_
    exact ⟨rfl, hid (HX3.out.done HU9.out)⟩
  rw [if_pos hr]
  rw [decide_eq_true hr] at HI
  clear hr
  obtain ⟨x, hxx⟩ : ∃ x : Nat, b = (x : Int) := ⟨b.toNat, by have := hb.1; omega⟩
  have hxb : x < 18446744073709551616 := by have := hb.2; omega
  subst hxx
  rw [show ((x : Int)).toNat = x by omega]
  go_enter Tryz.func14, Tryz.ntmps14
  go_upto_region 1 with fail
  (try simp only [World.size_alloc, ho, hp])
  generalize hw2 : World.alloc (w.alloc _) _ = w2 at HX ⊢
  clear hw2 ho hp
  obtain ⟨o0, o1, o2, o3⟩ := HX.out.cells
  (go_wp2_with fail; refine (HW.out _).mono ?_; rintro e_ w_ ⟨he_, hw_⟩; subst he_; have hs_ := hw_.symm; clear hw_; subst hs_)
  (go_wp2_with fail; refine (HI.out _).mono ?_; rintro e_ w_ ⟨he_, hw_⟩; subst he_; have hs_ := hw_.symm; clear hw_; subst hs_)
  obtain ⟨_, _, _, _, _, c5⟩ := HX.out.mx.md.mm.cells
  have f5 := HX.out.mx.md.mm.m.frozen 5
  have HX2 := hid HX.out.ver
  have vw := ver_wrap E.v
  generalize ((E.v + 1) % 18446744073709551616 : Nat) = v1 at vw HX2
  clear HX
  go_upto_region 32 with fail
  clear c5 f5 o0 o1 o2 o3
  generalize hw3 : World.setCell _ _ _ = w3 at HX2 ⊢
  clear hw3 vw
  obtain ⟨o0, o1, o2, o3⟩ := HX2.out.cells
  obtain ⟨X', W, HTT, H0, hne, HCl⟩ := class_below w3
  have y1 : ∀ z, (W z).cell? ⟨l.m, 0, none⟩ = some (.slice (some ⟨l.w, 0, none⟩) 32768 32768) := fun z => (HX2.out.below (HTT.out z)).mx.md.mm.cells.1
  have y3 : ∀ z, (W z).cell? ⟨o, 1, none⟩ = some (.int .u64 a) := fun z => (HX2.out.below (HTT.out z)).op.cell 1
  have y4 : ∀ z, (W z).cell? ⟨o, 2, none⟩ = some (.int .u64 (x : Int)) := fun z => (HX2.out.below (HTT.out z)).op.cell 2
  refine wp_region_class_lastT W rfl (by kernel_rfl) (by kernel_rfl) (by kernel_rfl) H0.out ?_
  dsimp only [List.dropLast, List.getLast]
  repeat (go_big_quiet_step (with_reducible exact Calls.class_same (HO.out _)))
  refine wpQuiet_nil ?_
  intro z
  have HZ := hid (HX2.out.below (HTT.out z))
  generalize W z = wz at HZ ⊢
  clear y1 y3 y4 H0 HTT HCl hne HX2 o0 o1 o2 o3
  obtain ⟨cv, cz⟩ : ∃ cv, wz.cell? ⟨l.w, i, none⟩ = some cv := ⟨_, HZ.out.mx.md.mm.word k2⟩
  have fz := HZ.out.mx.md.mm.ws.frozen i
  have HF := hid (HZ.out.step ((MD.start HZ.out.mx.md.mm).putW (i := i) (x := x) k2 hxb))
  clear HZ
  go_upto_region 33 with fail
  generalize hw4 : World.setCell _ _ _ = w4 at HF ⊢
  clear hw4 cz fz
  obtain ⟨o0, o1, o2, o3⟩ := HF.out.cells
  go_wp2_with fail
  refine (HA.out _).mono ?_
  rintro e w3 ⟨rfl, hb3⟩
  have HX3 := hid (HF.out.below hb3)
  clear hb3 HF o0 o1 o2 o3
  go_wp2_with (refine wpList_store_blk rfl 46 _ _ rfl p rfl (rsC 0 0 0) rfl HX3.out.mx.b rfl I0.out (rsC_one _ _ _) ?_; intro w9 HB9 HU9)
  refine bodyPost_ret (results_blk (cs := (rsC 0 0 0)) Tryz.results14 rfl agg_rs HB9.out) rfl ?_
  exact ⟨rfl, hid (HX3.out.done HU9.out)⟩
set_option maxRecDepth 100000 in
set_option maxHeartbeats 1000000 in
theorem st4 (h : MM l E w) (a b c : Int) (ha : U64 a) (hb : U64 b) (hc : U64 c) : Calls Tryz.prog 14 #[.pointer (some ⟨l.m, 0, none⟩), .agg #[.int .u8 4, .int .u64 a, .int .u64 b, .int .u64 c]] w fun e w' => e = .returned (.agg (encE a b).toArray) ∧ Hid (MD w l E w') := by
  have I0 := hid info_rs
  have HR := hid (fun (cd : Int) (wz : World) => refM cd wz)
  have HA := hid (fun wz => ansM 0 0 wz)
  obtain ⟨o, ho⟩ : ∃ o, w.heap.size = o := ⟨_, rfl⟩
  obtain ⟨p, hp⟩ : ∃ p, o + 1 = p := ⟨_, rfl⟩
  have HX : Hid (MP w l E o p [.int .u8 4, .int .u64 a, .int .u64 b, .int .u64 c] ((w.alloc (.cells #[.int .u8 4, .int .u64 a, .int .u64 b, .int .u64 c] 31)).alloc (.cells #[.int .u8 0, .int .u64 0, .int .u64 0, .string { data := #[] }, .int .i64 0, .int .i64 0, .int .i64 0, .int .i64 0, .int .i64 0, .int .i64 0, .int .i64 0, .int .i64 0, .int .i64 0, .int .i64 0, .int .i64 0, .int .i64 0, .int .i64 0, .int .i64 0, .int .i64 0, .int .i64 0, .int .u8 0, .int .i64 0, .int .i64 0, .int .i64 0, .int .i64 0, .int .i64 0, .int .i64 0, .int .i64 0, .int .i64 0, .int .i64 0, .int .i64 0, .int .i64 0, .int .i64 0, .int .i64 0, .int .i64 0] 46))) := hid (MP.start h ho hp)
  clear h
  unfold encE
  obtain ⟨na, hna⟩ : ∃ n, nbI a = n := ⟨_, rfl⟩
  have HNa : Hid (∀ wz, Calls Tryz.prog 92 #[.int .u64 a] wz fun e w' => e = .returned (.int .i64 na) ∧ w' = wz) := hid (fun wz => by
    have := numM a ha wz
    rw [hna] at this
    exact this)
  have hra : -9223372036854775808 ≤ na ∧ na < 9223372036854775808 := by rw [← hna]; exact nbI_rng a
  rw [hna]
  clear hna
  obtain ⟨nb, hnb⟩ : ∃ n, nbI b = n := ⟨_, rfl⟩
  have HNb : Hid (∀ wz, Calls Tryz.prog 92 #[.int .u64 b] wz fun e w' => e = .returned (.int .i64 nb) ∧ w' = wz) := hid (fun wz => by
    have := numM b hb wz
    rw [hnb] at this
    exact this)
  have hrb : -9223372036854775808 ≤ nb ∧ nb < 9223372036854775808 := by rw [← hnb]; exact nbI_rng b
  rw [hnb]
  clear hnb
  have HS := hid (fun wz => ckshM na nb wz)
  by_cases hz : hdrCheck na nb = 0
  rotate_left
  · as_aux_lemma =>
    rw [if_neg hz]
    generalize hdrCheck na nb = cd at *
    have dc : (cd != 0) = true := by simpa using hz
    have dc' : (cd == 0) = false := by simpa using hz
    clear hz
    go_enter Tryz.func14, Tryz.ntmps14
    go_upto_region 1 with fail
    (try simp only [World.size_alloc, ho, hp])
    generalize hw2 : World.alloc (w.alloc _) _ = w2 at HX ⊢
    clear hw2 ho hp
    obtain ⟨o0, o1, o2, o3⟩ := HX.out.cells
    go_upto_region 35 with fail
    obtain ⟨X', W, HTT, H0, hne, HCl⟩ := class_below w2
    have y3 : ∀ z, (W z).cell? ⟨o, 1, none⟩ = some (.int .u64 a) := fun z => (HX.out.below (HTT.out z)).op.cell 1
    have y4 : ∀ z, (W z).cell? ⟨o, 2, none⟩ = some (.int .u64 b) := fun z => (HX.out.below (HTT.out z)).op.cell 2
    refine wp_region_class_lastT W rfl (by kernel_rfl) (by kernel_rfl) (by kernel_rfl) H0.out ?_
    dsimp only [List.dropLast, List.getLast]
    repeat (go_big_quiet_step (first | with_reducible exact Calls.class_same (HNa.out _) | with_reducible exact Calls.class_same (HNb.out _) | with_reducible exact Calls.class_same (HS.out _)))
    refine wpQuiet_nil ?_
    intro z
    have HZ := hid (HX.out.below (HTT.out z))
    generalize W z = wz at HZ ⊢
    clear y3 y4 H0 HTT HCl hne HX o0 o1 o2 o3
    obtain ⟨o0, o1, o2, o3⟩ := HZ.out.cells
    go_wp2_with fail
    refine (HR.out cd _).mono ?_
    rintro e w3 ⟨rfl, hb3⟩
    have HX3 := hid (HZ.out.below hb3)
    clear hb3 HZ o0 o1 o2 o3
    go_wp2_with (refine wpList_store_blk rfl 46 _ _ rfl p rfl (rsC cd 0 0) rfl HX3.out.mx.b rfl I0.out (rsC_one _ _ _) ?_; intro w9 HB9 HU9)
    refine bodyPost_ret (results_blk (cs := (rsC cd 0 0)) Tryz.results14 rfl agg_rs HB9.out) rfl ?_
    exact ⟨rfl, hid (HX3.out.done HU9.out)⟩
  rw [if_pos hz]
  rw [hz] at HS
  clear hz
  obtain ⟨v, hv⟩ : ∃ v, (13186539708940812288 + b * 65536 + a) % 18446744073709551616 = v := ⟨_, rfl⟩
  rw [hv]
  obtain ⟨v1, hv1⟩ : ∃ v1, IntKind.u64.wrap (b * 65536) = v1 := ⟨_, rfl⟩
  obtain ⟨v2, hv2⟩ : ∃ v2, IntKind.u64.wrap (13186539708940812288 + v1) = v2 := ⟨_, rfl⟩
  have hv3 : IntKind.u64.wrap (v2 + a) = v := by
    rw [← hv, ← hv2, ← hv1]
    rw [IntKind.wrap_u64, IntKind.wrap_u64, IntKind.wrap_u64]
    omega
  have vr : 0 ≤ v ∧ v < 18446744073709551616 ∧ 0 ≤ v1 ∧ v1 < 18446744073709551616 ∧ 0 ≤ v2 ∧ v2 < 18446744073709551616 := by
    rw [IntKind.wrap_u64] at hv1 hv2
    omega
  clear hv
  go_enter Tryz.func14, Tryz.ntmps14
  go_upto_region 1 with fail
  (try simp only [World.size_alloc, ho, hp])
  generalize hw2 : World.alloc (w.alloc _) _ = w2 at HX ⊢
  clear hw2 ho hp
  obtain ⟨o0, o1, o2, o3⟩ := HX.out.cells
  go_upto_region 35 with fail
  obtain ⟨X', W, HTT, H0, hne, HCl⟩ := class_below w2
  have y3 : ∀ z, (W z).cell? ⟨o, 1, none⟩ = some (.int .u64 a) := fun z => (HX.out.below (HTT.out z)).op.cell 1
  have y4 : ∀ z, (W z).cell? ⟨o, 2, none⟩ = some (.int .u64 b) := fun z => (HX.out.below (HTT.out z)).op.cell 2
  refine wp_region_class_lastT W rfl (by kernel_rfl) (by kernel_rfl) (by kernel_rfl) H0.out ?_
  dsimp only [List.dropLast, List.getLast]
  repeat (go_big_quiet_step (first | with_reducible exact Calls.class_same (HNa.out _) | with_reducible exact Calls.class_same (HNb.out _) | with_reducible exact Calls.class_same (HS.out _)))
  refine wpQuiet_nil ?_
  intro z
  have HZ := hid (HX.out.below (HTT.out z))
  generalize W z = wz at HZ ⊢
  clear y3 y4 H0 HTT HCl hne HX o0 o1 o2 o3
  obtain ⟨o0, o1, o2, o3⟩ := HZ.out.cells
  go_wp2_with fail
  refine (ansM v 0 _).mono ?_
  rintro e w3 ⟨rfl, hb3⟩
  have HX3 := hid (HZ.out.below hb3)
  clear hb3 HZ o0 o1 o2 o3
  go_wp2_with (refine wpList_store_blk rfl 46 _ _ rfl p rfl (rsC 0 v 0) rfl HX3.out.mx.b rfl I0.out (rsC_one _ _ _) ?_; intro w9 HB9 HU9)
  refine bodyPost_ret (results_blk (cs := (rsC 0 v 0)) Tryz.results14 rfl agg_rs HB9.out) rfl ?_
  exact ⟨rfl, hid (HX3.out.done HU9.out)⟩
end
end Go.Proofs.Qxb6500887aGreat
