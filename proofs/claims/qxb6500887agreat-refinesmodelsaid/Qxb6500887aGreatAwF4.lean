/- Steps that the model plays itself (written by tools/mk_awc.py). -/
import Derived.Test.Qxb6500887aGreatAwC
import Derived.Deep.DeepCutAuto
namespace Go.Proofs.Qxb6500887aGreat
open Go.RowKit
set_option linter.unusedSimpArgs false
set_option linter.unusedVariables false
section
variable {l : ML} {E E' : ES} {w w' w0 w3 w4 : World} {o p r : Nat} {oc rs : List Value}
set_option maxRecDepth 100000 in
set_option maxHeartbeats 1000000 in
theorem st28 (h : MM l E w) (a b c : Int) (ha : U64 a) (hb : U64 b) (hc : U64 c) : Calls Tryz.prog 14 #[.pointer (some ⟨l.m, 0, none⟩), .agg #[.int .u8 28, .int .u64 a, .int .u64 b, .int .u64 c]] w fun e w' => e = .returned (.agg (tallyE E (nbI a)).toArray) ∧ Hid (MD w l E w') := by
  have I0 := hid info_rs
  have HR := hid (fun (cd : Int) (wz : World) => refM cd wz)
  have HA := hid (fun wz => ansM 0 0 wz)
  obtain ⟨o, ho⟩ : ∃ o, w.heap.size = o := ⟨_, rfl⟩
  obtain ⟨p, hp⟩ : ∃ p, o + 1 = p := ⟨_, rfl⟩
  have HX : Hid (MP w l E o p [.int .u8 28, .int .u64 a, .int .u64 b, .int .u64 c] ((w.alloc (.cells #[.int .u8 28, .int .u64 a, .int .u64 b, .int .u64 c] 31)).alloc (.cells #[.int .u8 0, .int .u64 0, .int .u64 0, .string { data := #[] }, .int .i64 0, .int .i64 0, .int .i64 0, .int .i64 0, .int .i64 0, .int .i64 0, .int .i64 0, .int .i64 0, .int .i64 0, .int .i64 0, .int .i64 0, .int .i64 0, .int .i64 0, .int .i64 0, .int .i64 0, .int .i64 0, .int .u8 0, .int .i64 0, .int .i64 0, .int .i64 0, .int .i64 0, .int .i64 0, .int .i64 0, .int .i64 0, .int .i64 0, .int .i64 0, .int .i64 0, .int .i64 0, .int .i64 0, .int .i64 0, .int .i64 0] 46))) := hid (MP.start h ho hp)
  clear h
  obtain ⟨na, hna⟩ : ∃ n, nbI a = n := ⟨_, rfl⟩
  have HNa : Hid (∀ wz, Calls Tryz.prog 92 #[.int .u64 a] wz fun e w' => e = .returned (.int .i64 na) ∧ w' = wz) := hid (fun wz => by
    have := numM a ha wz
    rw [hna] at this
    exact this)
  have hra : -9223372036854775808 ≤ na ∧ na < 9223372036854775808 := by rw [← hna]; exact nbI_rng a
  rw [hna]
  clear hna
  unfold tallyE
  have HB := hid (fun wz => blM na wz)
  by_cases hc_ : na < 0 ∨ 2048 ≤ na
  · as_aux_lemma =>
    rw [if_pos hc_]
    rw [decide_eq_true hc_] at HB
    clear hc_
    go_enter Tryz.func14, Tryz.ntmps14
    go_upto_region 1 with fail
    (try simp only [World.size_alloc, ho, hp])
    generalize hw2 : World.alloc (w.alloc _) _ = w2 at HX ⊢
    clear hw2 ho hp
    obtain ⟨o0, o1, o2, o3⟩ := HX.out.cells
    (go_wp2_with fail; refine (HNa.out _).mono ?_; rintro e_ w_ ⟨he_, hw_⟩; subst he_; have hs_ := hw_.symm; clear hw_; subst hs_)
    (go_wp2_with fail; refine (HB.out _).mono ?_; rintro e_ w_ ⟨he_, hw_⟩; subst he_; have hs_ := hw_.symm; clear hw_; subst hs_)
    go_wp2_with fail
    refine (HR.out 1 _).mono ?_
    rintro e w3 ⟨rfl, hb3⟩
    have HX3 := hid (HX.out.below hb3)
    clear hb3 HX o0 o1 o2 o3
    go_wp2_with (refine wpList_store_blk rfl 46 _ _ rfl p rfl (rsC 1 0 0) rfl HX3.out.mx.b rfl I0.out (rsC_one _ _ _) ?_; intro w9 HB9 HU9)
    refine bodyPost_ret (results_blk (cs := (rsC 1 0 0)) Tryz.results14 rfl agg_rs HB9.out) rfl ?_
    exact ⟨rfl, hid (HX3.out.done HU9.out)⟩
  rw [if_neg hc_]
  rw [decide_eq_false hc_] at HB
  obtain ⟨n, rfl⟩ : ∃ n : Nat, na = (n : Int) := ⟨na.toNat, by omega⟩
  have hnl : n < 2048 := by omega
  rw [show ((n : Int)).toNat = n by omega]
  clear hc_ hra
  obtain ⟨x, hx⟩ : ∃ x, E.T n = x := ⟨_, rfl⟩
  rw [hx]
  have Hx := hid hx
  clear hx
  go_enter Tryz.func14, Tryz.ntmps14
  go_upto_region 1 with fail
  (try simp only [World.size_alloc, ho, hp])
  generalize hw2 : World.alloc (w.alloc _) _ = w2 at HX ⊢
  clear hw2 ho hp
  obtain ⟨o0, o1, o2, o3⟩ := HX.out.cells
  have hxl : x ≤ 15 := by rw [← Hx.out]; exact HX.out.mx.md.mm.tl n
  (go_wp2_with fail; refine (HNa.out _).mono ?_; rintro e_ w_ ⟨he_, hw_⟩; subst he_; have hs_ := hw_.symm; clear hw_; subst hs_)
  (go_wp2_with fail; refine (HB.out _).mono ?_; rintro e_ w_ ⟨he_, hw_⟩; subst he_; have hs_ := hw_.symm; clear hw_; subst hs_)
  go_upto_region 111 with fail
  refine wp_region_heavy (fun wz => MP w l E o p [.int .u8 28, .int .u64 a, .int .u64 b, .int .u64 c] wz) 11 [0, 1, 2, 3, 4, 5, 6, 7, 8, 9] [10] rfl (by kernel_rfl) (by kernel_rfl) (fun d _ _ _ _ h => by cases d <;> exact h) (HX.out.below (Drew.below ⟨1, rfl⟩ _)) ?_
  apply Exists.intro
  refine ⟨?_, ?_⟩
  · intro W hW
    have d1 : ∀ x, (W x).cell? ⟨o, 1, none⟩ = some (.int .u64 a) := fun x => (hW x).op.cell 1
    have d2 : ∀ x, (W x).cell? ⟨o, 2, none⟩ = some (.int .u64 b) := fun x => (hW x).op.cell 2
    have y1 : ∀ z, (W z).cell? ⟨l.m, 4, none⟩ = some (.slice (some ⟨l.t, 0, none⟩) 2048 2048) := fun z => (hW z).mx.md.mm.cells.2.2.2.2.1
    have y2 : ∀ z, (W z).cell? ⟨l.t, n, none⟩ = some (.int .i64 (x : Int)) := fun z => by rw [← Hx.out]; exact (hW z).mx.md.mm.tally hnl
    clear hW
    simp only [List.take, opsAt, List.drop, List.cons_append, List.nil_append]
    repeat (go_big_quiet_step (with_reducible exact Calls.class_same (HNa.out _)))
    exact rfl
  simp only [List.take, List.drop, opsAt, List.cons_append, List.nil_append, wpHv]
  have HD : Hid (MP w l E o p [.int .u8 28, .int .u64 a, .int .u64 b, .int .u64 c] w2.drew) := hid (HX.out.below (Drew.below ⟨1, rfl⟩ _))
  generalize w2.drew = wd at HD ⊢
  clear HX o0 o1 o2 o3
  go_wp2_with fail
  refine (ansM (x : Int) 0 _).mono ?_
  rintro e w3 ⟨rfl, hb3⟩
  have HX3 := hid (HD.out.below hb3)
  clear hb3 HD
  go_wp2_with fail
  refine ⟨HX3.out, ?_⟩
  simp only [QN]
  go_wp2_with (refine wpList_store_blk rfl 46 _ _ rfl p rfl (rsC 0 (x : Int) 0) rfl HX3.out.mx.b rfl I0.out (rsC_one _ _ _) ?_; intro w9 HB9 HU9)
  refine bodyPost_ret (results_blk (cs := rsC 0 (x : Int) 0) Tryz.results14 rfl agg_rs HB9.out) rfl ?_
  exact ⟨rfl, hid (HX3.out.done HU9.out)⟩
set_option maxRecDepth 100000 in
set_option maxHeartbeats 1000000 in
theorem st31 (h : MM l E w) (a b c : Int) (ha : U64 a) (hb : U64 b) (hc : U64 c) : Calls Tryz.prog 14 #[.pointer (some ⟨l.m, 0, none⟩), .agg #[.int .u8 31, .int .u64 a, .int .u64 b, .int .u64 c]] w fun e w' => e = .returned (.agg (flnE E (nbI a)).toArray) ∧ Hid (MD w l E w') := by
  have I0 := hid info_rs
  have HR := hid (fun (cd : Int) (wz : World) => refM cd wz)
  have HA := hid (fun wz => ansM 0 0 wz)
  obtain ⟨o, ho⟩ : ∃ o, w.heap.size = o := ⟨_, rfl⟩
  obtain ⟨p, hp⟩ : ∃ p, o + 1 = p := ⟨_, rfl⟩
  have HX : Hid (MP w l E o p [.int .u8 31, .int .u64 a, .int .u64 b, .int .u64 c] ((w.alloc (.cells #[.int .u8 31, .int .u64 a, .int .u64 b, .int .u64 c] 31)).alloc (.cells #[.int .u8 0, .int .u64 0, .int .u64 0, .string { data := #[] }, .int .i64 0, .int .i64 0, .int .i64 0, .int .i64 0, .int .i64 0, .int .i64 0, .int .i64 0, .int .i64 0, .int .i64 0, .int .i64 0, .int .i64 0, .int .i64 0, .int .i64 0, .int .i64 0, .int .i64 0, .int .i64 0, .int .u8 0, .int .i64 0, .int .i64 0, .int .i64 0, .int .i64 0, .int .i64 0, .int .i64 0, .int .i64 0, .int .i64 0, .int .i64 0, .int .i64 0, .int .i64 0, .int .i64 0, .int .i64 0, .int .i64 0] 46))) := hid (MP.start h ho hp)
  clear h
  obtain ⟨na, hna⟩ : ∃ n, nbI a = n := ⟨_, rfl⟩
  have HNa : Hid (∀ wz, Calls Tryz.prog 92 #[.int .u64 a] wz fun e w' => e = .returned (.int .i64 na) ∧ w' = wz) := hid (fun wz => by
    have := numM a ha wz
    rw [hna] at this
    exact this)
  have hra : -9223372036854775808 ≤ na ∧ na < 9223372036854775808 := by rw [← hna]; exact nbI_rng a
  rw [hna]
  clear hna
  unfold flnE
  have HB := hid (fun wz => bbM na wz)
  by_cases hc_ : na < 0 ∨ 64 ≤ na
  · as_aux_lemma =>
    rw [if_pos hc_]
    rw [decide_eq_true hc_] at HB
    clear hc_
    go_enter Tryz.func14, Tryz.ntmps14
    go_upto_region 1 with fail
    (try simp only [World.size_alloc, ho, hp])
    generalize hw2 : World.alloc (w.alloc _) _ = w2 at HX ⊢
    clear hw2 ho hp
    obtain ⟨o0, o1, o2, o3⟩ := HX.out.cells
    (go_wp2_with fail; refine (HNa.out _).mono ?_; rintro e_ w_ ⟨he_, hw_⟩; subst he_; have hs_ := hw_.symm; clear hw_; subst hs_)
    (go_wp2_with fail; refine (HB.out _).mono ?_; rintro e_ w_ ⟨he_, hw_⟩; subst he_; have hs_ := hw_.symm; clear hw_; subst hs_)
    go_wp2_with fail
    refine (HR.out 1 _).mono ?_
    rintro e w3 ⟨rfl, hb3⟩
    have HX3 := hid (HX.out.below hb3)
    clear hb3 HX o0 o1 o2 o3
    go_wp2_with (refine wpList_store_blk rfl 46 _ _ rfl p rfl (rsC 1 0 0) rfl HX3.out.mx.b rfl I0.out (rsC_one _ _ _) ?_; intro w9 HB9 HU9)
    refine bodyPost_ret (results_blk (cs := (rsC 1 0 0)) Tryz.results14 rfl agg_rs HB9.out) rfl ?_
    exact ⟨rfl, hid (HX3.out.done HU9.out)⟩
  rw [if_neg hc_]
  rw [decide_eq_false hc_] at HB
  obtain ⟨n, rfl⟩ : ∃ n : Nat, na = (n : Int) := ⟨na.toNat, by omega⟩
  have hnl : n < 64 := by omega
  rw [show ((n : Int)).toNat = n by omega]
  clear hc_ hra
  have HF : Hid (∀ wz, MM l E wz → Calls Tryz.prog 116 #[.pointer (some ⟨l.m, 0, none⟩), .int .i64 (n : Int)] wz fun e w' => e = .returned (.int .i64 ((flE E.T n 32 : Nat) : Int)) ∧ w' = wz) := hid (fun wz hz => flsM hz hnl)
  have hzb : flE E.T n 32 ≤ 32 := cnt_bound _ _
  generalize flE E.T n 32 = z at *
  go_enter Tryz.func14, Tryz.ntmps14
  go_upto_region 1 with fail
  (try simp only [World.size_alloc, ho, hp])
  generalize hw2 : World.alloc (w.alloc _) _ = w2 at HX ⊢
  clear hw2 ho hp
  obtain ⟨o0, o1, o2, o3⟩ := HX.out.cells
  (go_wp2_with fail; refine (HNa.out _).mono ?_; rintro e_ w_ ⟨he_, hw_⟩; subst he_; have hs_ := hw_.symm; clear hw_; subst hs_)
  (go_wp2_with fail; refine (HB.out _).mono ?_; rintro e_ w_ ⟨he_, hw_⟩; subst he_; have hs_ := hw_.symm; clear hw_; subst hs_)
  (go_wp2_with fail; refine (HNa.out _).mono ?_; rintro e_ w_ ⟨he_, hw_⟩; subst he_; have hs_ := hw_.symm; clear hw_; subst hs_)
  (go_wp2_with fail; refine (HF.out _ HX.out.mx.md.mm).mono ?_; rintro e_ w_ ⟨he_, hw_⟩; subst he_; have hs_ := hw_.symm; clear hw_; subst hs_)
  go_wp2_with fail
  refine (ansM (z : Int) 0 _).mono ?_
  rintro e w3 ⟨rfl, hb3⟩
  have HX3 := hid (HX.out.below hb3)
  clear hb3 HX o0 o1 o2 o3
  go_wp2_with (refine wpList_store_blk rfl 46 _ _ rfl p rfl (rsC 0 (z : Int) 0) rfl HX3.out.mx.b rfl I0.out (rsC_one _ _ _) ?_; intro w9 HB9 HU9)
  refine bodyPost_ret (results_blk (cs := (rsC 0 (z : Int) 0)) Tryz.results14 rfl agg_rs HB9.out) rfl ?_
  exact ⟨rfl, hid (HX3.out.done HU9.out)⟩
set_option maxRecDepth 100000 in
set_option maxHeartbeats 1000000 in
theorem st32 (h : MM l E w) (a b c : Int) (ha : U64 a) (hb : U64 b) (hc : U64 c) : Calls Tryz.prog 14 #[.pointer (some ⟨l.m, 0, none⟩), .agg #[.int .u8 32, .int .u64 a, .int .u64 b, .int .u64 c]] w fun e w' => e = .returned (.agg (clsE E (nbI a)).toArray) ∧ Hid (MD w l E w') := by
  have I0 := hid info_rs
  have HR := hid (fun (cd : Int) (wz : World) => refM cd wz)
  have HA := hid (fun wz => ansM 0 0 wz)
  obtain ⟨o, ho⟩ : ∃ o, w.heap.size = o := ⟨_, rfl⟩
  obtain ⟨p, hp⟩ : ∃ p, o + 1 = p := ⟨_, rfl⟩
  have HX : Hid (MP w l E o p [.int .u8 32, .int .u64 a, .int .u64 b, .int .u64 c] ((w.alloc (.cells #[.int .u8 32, .int .u64 a, .int .u64 b, .int .u64 c] 31)).alloc (.cells #[.int .u8 0, .int .u64 0, .int .u64 0, .string { data := #[] }, .int .i64 0, .int .i64 0, .int .i64 0, .int .i64 0, .int .i64 0, .int .i64 0, .int .i64 0, .int .i64 0, .int .i64 0, .int .i64 0, .int .i64 0, .int .i64 0, .int .i64 0, .int .i64 0, .int .i64 0, .int .i64 0, .int .u8 0, .int .i64 0, .int .i64 0, .int .i64 0, .int .i64 0, .int .i64 0, .int .i64 0, .int .i64 0, .int .i64 0, .int .i64 0, .int .i64 0, .int .i64 0, .int .i64 0, .int .i64 0, .int .i64 0] 46))) := hid (MP.start h ho hp)
  clear h
  obtain ⟨na, hna⟩ : ∃ n, nbI a = n := ⟨_, rfl⟩
  have HNa : Hid (∀ wz, Calls Tryz.prog 92 #[.int .u64 a] wz fun e w' => e = .returned (.int .i64 na) ∧ w' = wz) := hid (fun wz => by
    have := numM a ha wz
    rw [hna] at this
    exact this)
  have hra : -9223372036854775808 ≤ na ∧ na < 9223372036854775808 := by rw [← hna]; exact nbI_rng a
  rw [hna]
  clear hna
  unfold clsE
  have HB := hid (fun wz => bbM na wz)
  by_cases hc_ : na < 0 ∨ 64 ≤ na
  · as_aux_lemma =>
    rw [if_pos hc_]
    rw [decide_eq_true hc_] at HB
    clear hc_
    go_enter Tryz.func14, Tryz.ntmps14
    go_upto_region 1 with fail
    (try simp only [World.size_alloc, ho, hp])
    generalize hw2 : World.alloc (w.alloc _) _ = w2 at HX ⊢
    clear hw2 ho hp
    obtain ⟨o0, o1, o2, o3⟩ := HX.out.cells
    (go_wp2_with fail; refine (HNa.out _).mono ?_; rintro e_ w_ ⟨he_, hw_⟩; subst he_; have hs_ := hw_.symm; clear hw_; subst hs_)
    (go_wp2_with fail; refine (HB.out _).mono ?_; rintro e_ w_ ⟨he_, hw_⟩; subst he_; have hs_ := hw_.symm; clear hw_; subst hs_)
    go_wp2_with fail
    refine (HR.out 1 _).mono ?_
    rintro e w3 ⟨rfl, hb3⟩
    have HX3 := hid (HX.out.below hb3)
    clear hb3 HX o0 o1 o2 o3
    go_wp2_with (refine wpList_store_blk rfl 46 _ _ rfl p rfl (rsC 1 0 0) rfl HX3.out.mx.b rfl I0.out (rsC_one _ _ _) ?_; intro w9 HB9 HU9)
    refine bodyPost_ret (results_blk (cs := (rsC 1 0 0)) Tryz.results14 rfl agg_rs HB9.out) rfl ?_
    exact ⟨rfl, hid (HX3.out.done HU9.out)⟩
  rw [if_neg hc_]
  rw [decide_eq_false hc_] at HB
  obtain ⟨n, rfl⟩ : ∃ n : Nat, na = (n : Int) := ⟨na.toNat, by omega⟩
  have hnl : n < 64 := by omega
  rw [show ((n : Int)).toNat = n by omega]
  clear hc_ hra
  have HF : Hid (∀ wz, MM l E wz → Calls Tryz.prog 116 #[.pointer (some ⟨l.m, 0, none⟩), .int .i64 (n : Int)] wz fun e w' => e = .returned (.int .i64 ((flE E.T n 32 : Nat) : Int)) ∧ w' = wz) := hid (fun wz hz => flsM hz hnl)
  have hzb : flE E.T n 32 ≤ 32 := cnt_bound _ _
  generalize flE E.T n 32 = z at *
  have HCl := hid (fun wz => claM z wz)
  have hcr : 0 ≤ clM z ∧ clM z ≤ 2 := by unfold clM; split; omega; split <;> omega
  generalize clM z = cl at *
  go_enter Tryz.func14, Tryz.ntmps14
  go_upto_region 1 with fail
  (try simp only [World.size_alloc, ho, hp])
  generalize hw2 : World.alloc (w.alloc _) _ = w2 at HX ⊢
  clear hw2 ho hp
  obtain ⟨o0, o1, o2, o3⟩ := HX.out.cells
  (go_wp2_with fail; refine (HNa.out _).mono ?_; rintro e_ w_ ⟨he_, hw_⟩; subst he_; have hs_ := hw_.symm; clear hw_; subst hs_)
  (go_wp2_with fail; refine (HB.out _).mono ?_; rintro e_ w_ ⟨he_, hw_⟩; subst he_; have hs_ := hw_.symm; clear hw_; subst hs_)
  (go_wp2_with fail; refine (HNa.out _).mono ?_; rintro e_ w_ ⟨he_, hw_⟩; subst he_; have hs_ := hw_.symm; clear hw_; subst hs_)
  (go_wp2_with fail; refine (HF.out _ HX.out.mx.md.mm).mono ?_; rintro e_ w_ ⟨he_, hw_⟩; subst he_; have hs_ := hw_.symm; clear hw_; subst hs_)
  (go_wp2_with fail; refine (HCl.out _).mono ?_; rintro e_ w_ ⟨he_, hw_⟩; subst he_; have hs_ := hw_.symm; clear hw_; subst hs_)
  go_wp2_with fail
  refine (ansM cl 0 _).mono ?_
  rintro e w3 ⟨rfl, hb3⟩
  have HX3 := hid (HX.out.below hb3)
  clear hb3 HX o0 o1 o2 o3
  go_wp2_with (refine wpList_store_blk rfl 46 _ _ rfl p rfl (rsC 0 cl 0) rfl HX3.out.mx.b rfl I0.out (rsC_one _ _ _) ?_; intro w9 HB9 HU9)
  refine bodyPost_ret (results_blk (cs := (rsC 0 cl 0)) Tryz.results14 rfl agg_rs HB9.out) rfl ?_
  exact ⟨rfl, hid (HX3.out.done HU9.out)⟩
set_option maxRecDepth 100000 in
set_option maxHeartbeats 1000000 in
theorem st22 (h : MM l E w) (a b c : Int) (ha : U64 a) (hb : U64 b) (hc : U64 c) : Calls Tryz.prog 14 #[.pointer (some ⟨l.m, 0, none⟩), .agg #[.int .u8 22, .int .u64 a, .int .u64 b, .int .u64 c]] w fun e w' => e = .returned (.agg (rsC 0 0 0).toArray) ∧ Hid (MD w l (clrLE E) w') := by
  have I0 := hid info_rs
  have HR := hid (fun (cd : Int) (wz : World) => refM cd wz)
  have HA := hid (fun wz => ansM 0 0 wz)
  obtain ⟨o, ho⟩ : ∃ o, w.heap.size = o := ⟨_, rfl⟩
  obtain ⟨p, hp⟩ : ∃ p, o + 1 = p := ⟨_, rfl⟩
  have HX : Hid (MP w l E o p [.int .u8 22, .int .u64 a, .int .u64 b, .int .u64 c] ((w.alloc (.cells #[.int .u8 22, .int .u64 a, .int .u64 b, .int .u64 c] 31)).alloc (.cells #[.int .u8 0, .int .u64 0, .int .u64 0, .string { data := #[] }, .int .i64 0, .int .i64 0, .int .i64 0, .int .i64 0, .int .i64 0, .int .i64 0, .int .i64 0, .int .i64 0, .int .i64 0, .int .i64 0, .int .i64 0, .int .i64 0, .int .i64 0, .int .i64 0, .int .i64 0, .int .i64 0, .int .u8 0, .int .i64 0, .int .i64 0, .int .i64 0, .int .i64 0, .int .i64 0, .int .i64 0, .int .i64 0, .int .i64 0, .int .i64 0, .int .i64 0, .int .i64 0, .int .i64 0, .int .i64 0, .int .i64 0] 46))) := hid (MP.start h ho hp)
  clear h
  unfold clrLE
  go_enter Tryz.func14, Tryz.ntmps14
  go_upto_region 1 with fail
  (try simp only [World.size_alloc, ho, hp])
  generalize hw2 : World.alloc (w.alloc _) _ = w2 at HX ⊢
  clear hw2 ho hp
  obtain ⟨o0, o1, o2, o3⟩ := HX.out.cells
  obtain ⟨_, _, _, _, _, c5⟩ := HX.out.mx.md.mm.cells
  have f5 := HX.out.mx.md.mm.m.frozen 5
  have HX2 := hid HX.out.ver
  have vw := ver_wrap E.v
  generalize ((E.v + 1) % 18446744073709551616 : Nat) = v1 at vw HX2
  clear HX
  go_upto_region 92 with fail
  clear c5 f5 o0 o1 o2 o3
  generalize hw3 : World.setCell _ _ _ = w3 at HX2 ⊢
  clear hw3 vw
  obtain ⟨o0, o1, o2, o3⟩ := HX2.out.cells
  have c3 := HX2.out.mx.md.mm.cells.2.2.2.1
  go_upto_region 93 with fail
  clear c3
  go_loopw [360] (fun u wr => ∃ q : Nat, u = .int .i64 (q : Int) ∧ q ≤ 32768 ∧ Hid (MP w l { E.tch with G := flB E.G 0 (0 + q) false } o p [.int .u8 22, .int .u64 a, .int .u64 b, .int .u64 c] wr)) (fun u _ => 32768 - (intOf u).toNat)
  case atStart => exact ⟨0, rfl, by omega, hid (by rw [flB_zero]; exact HX2.out)⟩
  case round =>
  clear HX2
  obtain ⟨q, rfl, hq, HK⟩ := hrel
  by_cases hqn : q < 32768
  rotate_left
  · as_aux_lemma =>
    have dq : decide ((q : Int) < 32768) = false := decide_eq_false (by omega)
    have HK2 : Hid (MP w l { E.tch with G := flB E.G 0 32768 false } o p [.int .u8 22, .int .u64 a, .int .u64 b, .int .u64 c] wr) := hid (by have := HK.out; rw [show 0 + q = 32768 by omega] at this; exact this)
    clear HK
    obtain ⟨o0, o1, o2, o3⟩ := HK2.out.cells
    go_wp2_with fail
    refine (HA.out _).mono ?_
    rintro e w3 ⟨rfl, hb3⟩
    have HX3 := hid (HK2.out.below hb3)
    clear hb3 HK2 o0 o1 o2 o3
    go_wp2_with (refine wpList_store_blk rfl 46 _ _ rfl p rfl (rsC 0 0 0) rfl HX3.out.mx.b rfl I0.out (rsC_one _ _ _) ?_; intro w9 HB9 HU9)
    refine bodyPost_ret (results_blk (cs := (rsC 0 0 0)) Tryz.results14 rfl agg_rs HB9.out) rfl ?_
    exact ⟨rfl, hid (HX3.out.done HU9.out)⟩
  as_aux_lemma =>
  have dq : decide ((q : Int) < 32768) = true := decide_eq_true (by omega)
  have c3 := HK.out.mx.md.mm.cells.2.2.2.1
  obtain ⟨cv, cz⟩ : ∃ cv, wr.cell? ⟨l.g, q, none⟩ = some cv := ⟨_, HK.out.mx.md.mm.log hqn⟩
  have fz := HK.out.mx.md.mm.g.frozen q
  have HF : Hid (MP w l { E.tch with G := flB E.G 0 (0 + (q + 1)) false } o p [.int .u8 22, .int .u64 a, .int .u64 b, .int .u64 c] (wr.setCell ⟨l.g, q, none⟩ (.bool false))) := hid (by
    have := HK.out.step ((MD.start HK.out.mx.md.mm).putG (i := q) (x := false) hqn)
    have e : fup (flB E.G 0 (0 + q) false) q false = flB E.G 0 (0 + (q + 1)) false := by
      funext j
      by_cases ej : j = q
      · rw [ej, fup_self]; unfold flB; rw [if_pos (by omega)]
      · rw [fup_ne _ _ ej]; unfold flB
        by_cases h2 : 0 ≤ j ∧ j < 0 + q
        · rw [if_pos h2, if_pos (by omega)]
        · rw [if_neg h2, if_neg (by omega)]
    rw [show ({ E.tch with G := flB E.G 0 (0 + q) false } : ES).G = flB E.G 0 (0 + q) false from rfl, e] at this
    exact this)
  clear HK
  go_wp2
  exact ⟨⟨q + 1, by go_num, by omega, HF⟩, by simp [intOf]; omega⟩
set_option maxRecDepth 100000 in
set_option maxHeartbeats 1000000 in
theorem st26 (h : MM l E w) (a b c : Int) (ha : U64 a) (hb : U64 b) (hc : U64 c) : Calls Tryz.prog 14 #[.pointer (some ⟨l.m, 0, none⟩), .agg #[.int .u8 26, .int .u64 a, .int .u64 b, .int .u64 c]] w fun e w' => e = .returned (.agg (rsC 0 0 0).toArray) ∧ Hid (MD w l (clrKE E) w') := by
  have I0 := hid info_rs
  have HR := hid (fun (cd : Int) (wz : World) => refM cd wz)
  have HA := hid (fun wz => ansM 0 0 wz)
  obtain ⟨o, ho⟩ : ∃ o, w.heap.size = o := ⟨_, rfl⟩
  obtain ⟨p, hp⟩ : ∃ p, o + 1 = p := ⟨_, rfl⟩
  have HX : Hid (MP w l E o p [.int .u8 26, .int .u64 a, .int .u64 b, .int .u64 c] ((w.alloc (.cells #[.int .u8 26, .int .u64 a, .int .u64 b, .int .u64 c] 31)).alloc (.cells #[.int .u8 0, .int .u64 0, .int .u64 0, .string { data := #[] }, .int .i64 0, .int .i64 0, .int .i64 0, .int .i64 0, .int .i64 0, .int .i64 0, .int .i64 0, .int .i64 0, .int .i64 0, .int .i64 0, .int .i64 0, .int .i64 0, .int .i64 0, .int .i64 0, .int .i64 0, .int .i64 0, .int .u8 0, .int .i64 0, .int .i64 0, .int .i64 0, .int .i64 0, .int .i64 0, .int .i64 0, .int .i64 0, .int .i64 0, .int .i64 0, .int .i64 0, .int .i64 0, .int .i64 0, .int .i64 0, .int .i64 0] 46))) := hid (MP.start h ho hp)
  clear h
  unfold clrKE
  go_enter Tryz.func14, Tryz.ntmps14
  go_upto_region 1 with fail
  (try simp only [World.size_alloc, ho, hp])
  generalize hw2 : World.alloc (w.alloc _) _ = w2 at HX ⊢
  clear hw2 ho hp
  obtain ⟨o0, o1, o2, o3⟩ := HX.out.cells
  obtain ⟨_, _, _, _, _, c5⟩ := HX.out.mx.md.mm.cells
  have f5 := HX.out.mx.md.mm.m.frozen 5
  have HX2 := hid HX.out.ver
  have vw := ver_wrap E.v
  generalize ((E.v + 1) % 18446744073709551616 : Nat) = v1 at vw HX2
  clear HX
  go_upto_region 100 with fail
  clear c5 f5 o0 o1 o2 o3
  generalize hw3 : World.setCell _ _ _ = w3 at HX2 ⊢
  clear hw3 vw
  obtain ⟨o0, o1, o2, o3⟩ := HX2.out.cells
  have c3 := HX2.out.mx.md.mm.cells.2.2.1
  go_upto_region 101 with fail
  clear c3
  go_loopw [385] (fun u wr => ∃ q : Nat, u = .int .i64 (q : Int) ∧ q ≤ 16384 ∧ Hid (MP w l { E.tch with K := flB E.K 0 (0 + q) false } o p [.int .u8 26, .int .u64 a, .int .u64 b, .int .u64 c] wr)) (fun u _ => 16384 - (intOf u).toNat)
  case atStart => exact ⟨0, rfl, by omega, hid (by rw [flB_zero]; exact HX2.out)⟩
  case round =>
  clear HX2
  obtain ⟨q, rfl, hq, HK⟩ := hrel
  by_cases hqn : q < 16384
  rotate_left
  · as_aux_lemma =>
    have dq : decide ((q : Int) < 16384) = false := decide_eq_false (by omega)
    have HK2 : Hid (MP w l { E.tch with K := flB E.K 0 16384 false } o p [.int .u8 26, .int .u64 a, .int .u64 b, .int .u64 c] wr) := hid (by have := HK.out; rw [show 0 + q = 16384 by omega] at this; exact this)
    clear HK
    obtain ⟨o0, o1, o2, o3⟩ := HK2.out.cells
    go_wp2_with fail
    refine (HA.out _).mono ?_
    rintro e w3 ⟨rfl, hb3⟩
    have HX3 := hid (HK2.out.below hb3)
    clear hb3 HK2 o0 o1 o2 o3
    go_wp2_with (refine wpList_store_blk rfl 46 _ _ rfl p rfl (rsC 0 0 0) rfl HX3.out.mx.b rfl I0.out (rsC_one _ _ _) ?_; intro w9 HB9 HU9)
    refine bodyPost_ret (results_blk (cs := (rsC 0 0 0)) Tryz.results14 rfl agg_rs HB9.out) rfl ?_
    exact ⟨rfl, hid (HX3.out.done HU9.out)⟩
  as_aux_lemma =>
  have dq : decide ((q : Int) < 16384) = true := decide_eq_true (by omega)
  have c3 := HK.out.mx.md.mm.cells.2.2.1
  obtain ⟨cv, cz⟩ : ∃ cv, wr.cell? ⟨l.k, q, none⟩ = some cv := ⟨_, HK.out.mx.md.mm.mark hqn⟩
  have fz := HK.out.mx.md.mm.k.frozen q
  have HF : Hid (MP w l { E.tch with K := flB E.K 0 (0 + (q + 1)) false } o p [.int .u8 26, .int .u64 a, .int .u64 b, .int .u64 c] (wr.setCell ⟨l.k, q, none⟩ (.bool false))) := hid (by
    have := HK.out.step ((MD.start HK.out.mx.md.mm).putK (i := q) (x := false) hqn)
    have e : fup (flB E.K 0 (0 + q) false) q false = flB E.K 0 (0 + (q + 1)) false := by
      funext j
      by_cases ej : j = q
      · rw [ej, fup_self]; unfold flB; rw [if_pos (by omega)]
      · rw [fup_ne _ _ ej]; unfold flB
        by_cases h2 : 0 ≤ j ∧ j < 0 + q
        · rw [if_pos h2, if_pos (by omega)]
        · rw [if_neg h2, if_neg (by omega)]
    rw [show ({ E.tch with K := flB E.K 0 (0 + q) false } : ES).K = flB E.K 0 (0 + q) false from rfl, e] at this
    exact this)
  clear HK
  go_wp2
  exact ⟨⟨q + 1, by go_num, by omega, HF⟩, by simp [intOf]; omega⟩
end
end Go.Proofs.Qxb6500887aGreat
