/- Steps of the model that call on (written by tools/mk_awc.py). -/
import Derived.Test.Qxb6500887aGreatAwC
import Derived.Deep.DeepCutAuto
namespace Go.Proofs.Qxb6500887aGreat
open Go.RowKit
set_option linter.unusedSimpArgs false
set_option linter.unusedVariables false
section
variable {l : ML} {E E' : ES} {w w' w0 w3 w4 : World} {o p r : Nat} {oc rs : List Value}
set_option maxRecDepth 100000 in
set_option maxHeartbeats 1000000 in
theorem st11 (h : MM l E w) (a b c : Int) (ha : U64 a) (hb : U64 b) (hc : U64 c) : Calls Tryz.prog 14 #[.pointer (some ⟨l.m, 0, none⟩), .agg #[.int .u8 11, .int .u64 a, .int .u64 b, .int .u64 c]] w fun e w' => e = .returned (.agg (ldRefE E a (nbI b)).toArray) ∧ Hid (MD w l E w') := by
  have I0 := hid info_rs
  have HR := hid (fun (cd : Int) (wz : World) => refM cd wz)
  have HA := hid (fun wz => ansM 0 0 wz)
  obtain ⟨o, ho⟩ : ∃ o, w.heap.size = o := ⟨_, rfl⟩
  obtain ⟨p, hp⟩ : ∃ p, o + 1 = p := ⟨_, rfl⟩
  have HX : Hid (MP w l E o p [.int .u8 11, .int .u64 a, .int .u64 b, .int .u64 c] ((w.alloc (.cells #[.int .u8 11, .int .u64 a, .int .u64 b, .int .u64 c] 31)).alloc (.cells #[.int .u8 0, .int .u64 0, .int .u64 0, .string { data := #[] }, .int .i64 0, .int .i64 0, .int .i64 0, .int .i64 0, .int .i64 0, .int .i64 0, .int .i64 0, .int .i64 0, .int .i64 0, .int .i64 0, .int .i64 0, .int .i64 0, .int .i64 0, .int .i64 0, .int .i64 0, .int .i64 0, .int .u8 0, .int .i64 0, .int .i64 0, .int .i64 0, .int .i64 0, .int .i64 0, .int .i64 0, .int .i64 0, .int .i64 0, .int .i64 0, .int .i64 0, .int .i64 0, .int .i64 0, .int .i64 0, .int .i64 0] 46))) := hid (MP.start h ho hp)
  clear h
  have HK := hid (fun wz (hz : MM l E wz) => field11 hz a b c ha hb hc)
  obtain ⟨R, hR⟩ : ∃ R, ldRefE E a (nbI b) = R := ⟨_, rfl⟩
  have HOK : Hid (RsOk R) := hid (by rw [← hR]; exact rk_ldRefE _ _ _)
  rw [hR] at HK ⊢
  clear hR
  go_enter Tryz.func14, Tryz.ntmps14
  go_upto_region 1 with fail
  (try simp only [World.size_alloc, ho, hp])
  generalize hw2 : World.alloc (w.alloc _) _ = w2 at HX ⊢
  clear hw2 ho hp
  obtain ⟨o0, o1, o2, o3⟩ := HX.out.cells
  go_wp2_with fail
  refine (HK.out _ HX.out.mx.md.mm).mono ?_
  rintro e w3 ⟨rfl, H3⟩
  have HX3 := hid (HX.out.step H3.out)
  clear H3 HX o0 o1 o2 o3 HK
  go_wp2_with (refine wpList_store_blk rfl 46 _ _ rfl p rfl R rfl HX3.out.mx.b (by rw [HOK.out.len]; rfl) (by rw [HOK.out.len]; exact I0.out) HOK.out.one ?_; intro w9 HB9 HU9)
  refine bodyPost_ret (results_blk (cs := R) Tryz.results14 rfl (by rw [HOK.out.len]; exact agg_rs) HB9.out) rfl ?_
  exact ⟨rfl, hid (HX3.out.done HU9.out)⟩
set_option maxRecDepth 100000 in
set_option maxHeartbeats 1000000 in
theorem st17 (h : MM l E w) (a b c : Int) (ha : U64 a) (hb : U64 b) (hc : U64 c) : Calls Tryz.prog 14 #[.pointer (some ⟨l.m, 0, none⟩), .agg #[.int .u8 17, .int .u64 a, .int .u64 b, .int .u64 c]] w fun e w' => e = .returned (.agg (rsC (setCountE E a b).1 0 0).toArray) ∧ Hid (MD w l (setCountE E a b).2 w') := by
  have I0 := hid info_rs
  have HR := hid (fun (cd : Int) (wz : World) => refM cd wz)
  have HA := hid (fun wz => ansM 0 0 wz)
  obtain ⟨o, ho⟩ : ∃ o, w.heap.size = o := ⟨_, rfl⟩
  obtain ⟨p, hp⟩ : ∃ p, o + 1 = p := ⟨_, rfl⟩
  have HX : Hid (MP w l E o p [.int .u8 17, .int .u64 a, .int .u64 b, .int .u64 c] ((w.alloc (.cells #[.int .u8 17, .int .u64 a, .int .u64 b, .int .u64 c] 31)).alloc (.cells #[.int .u8 0, .int .u64 0, .int .u64 0, .string { data := #[] }, .int .i64 0, .int .i64 0, .int .i64 0, .int .i64 0, .int .i64 0, .int .i64 0, .int .i64 0, .int .i64 0, .int .i64 0, .int .i64 0, .int .i64 0, .int .i64 0, .int .i64 0, .int .i64 0, .int .i64 0, .int .i64 0, .int .u8 0, .int .i64 0, .int .i64 0, .int .i64 0, .int .i64 0, .int .i64 0, .int .i64 0, .int .i64 0, .int .i64 0, .int .i64 0, .int .i64 0, .int .i64 0, .int .i64 0, .int .i64 0, .int .i64 0] 46))) := hid (MP.start h ho hp)
  clear h
  have HK := hid (fun wz (hz : MM l E wz) => count17 hz a b c ha hb hc)
  obtain ⟨R, hR⟩ : ∃ R, rsC (setCountE E a b).1 0 0 = R := ⟨_, rfl⟩
  have HOK : Hid (RsOk R) := hid (by rw [← hR]; exact RsOk.c _ _ _)
  rw [hR] at HK ⊢
  obtain ⟨E1, hE1⟩ : ∃ E1, (setCountE E a b).2 = E1 := ⟨_, rfl⟩
  rw [hE1] at HK ⊢
  clear hE1
  clear hR
  go_enter Tryz.func14, Tryz.ntmps14
  go_upto_region 1 with fail
  (try simp only [World.size_alloc, ho, hp])
  generalize hw2 : World.alloc (w.alloc _) _ = w2 at HX ⊢
  clear hw2 ho hp
  obtain ⟨o0, o1, o2, o3⟩ := HX.out.cells
  go_wp2_with fail
  refine (HK.out _ HX.out.mx.md.mm).mono ?_
  rintro e w3 ⟨rfl, H3⟩
  have HX3 := hid (HX.out.step H3.out)
  clear H3 HX o0 o1 o2 o3 HK
  go_wp2_with (refine wpList_store_blk rfl 46 _ _ rfl p rfl R rfl HX3.out.mx.b (by rw [HOK.out.len]; rfl) (by rw [HOK.out.len]; exact I0.out) HOK.out.one ?_; intro w9 HB9 HU9)
  refine bodyPost_ret (results_blk (cs := R) Tryz.results14 rfl (by rw [HOK.out.len]; exact agg_rs) HB9.out) rfl ?_
  exact ⟨rfl, hid (HX3.out.done HU9.out)⟩
set_option maxRecDepth 100000 in
set_option maxHeartbeats 1000000 in
theorem st24 (h : MM l E w) (a b c : Int) (ha : U64 a) (hb : U64 b) (hc : U64 c) : Calls Tryz.prog 14 #[.pointer (some ⟨l.m, 0, none⟩), .agg #[.int .u8 24, .int .u64 a, .int .u64 b, .int .u64 c]] w fun e w' => e = .returned (.agg (rsC (wantO a) 0 0).toArray) ∧ Hid (MD w l (setmarkE E a (b != 0)) w') := by
  have I0 := hid info_rs
  have HR := hid (fun (cd : Int) (wz : World) => refM cd wz)
  have HA := hid (fun wz => ansM 0 0 wz)
  obtain ⟨o, ho⟩ : ∃ o, w.heap.size = o := ⟨_, rfl⟩
  obtain ⟨p, hp⟩ : ∃ p, o + 1 = p := ⟨_, rfl⟩
  have HX : Hid (MP w l E o p [.int .u8 24, .int .u64 a, .int .u64 b, .int .u64 c] ((w.alloc (.cells #[.int .u8 24, .int .u64 a, .int .u64 b, .int .u64 c] 31)).alloc (.cells #[.int .u8 0, .int .u64 0, .int .u64 0, .string { data := #[] }, .int .i64 0, .int .i64 0, .int .i64 0, .int .i64 0, .int .i64 0, .int .i64 0, .int .i64 0, .int .i64 0, .int .i64 0, .int .i64 0, .int .i64 0, .int .i64 0, .int .i64 0, .int .i64 0, .int .i64 0, .int .i64 0, .int .u8 0, .int .i64 0, .int .i64 0, .int .i64 0, .int .i64 0, .int .i64 0, .int .i64 0, .int .i64 0, .int .i64 0, .int .i64 0, .int .i64 0, .int .i64 0, .int .i64 0, .int .i64 0, .int .i64 0] 46))) := hid (MP.start h ho hp)
  clear h
  have HK := hid (fun wz (hz : MM l E wz) => mark24 hz a b c ha hb hc)
  obtain ⟨R, hR⟩ : ∃ R, rsC (wantO a) 0 0 = R := ⟨_, rfl⟩
  have HOK : Hid (RsOk R) := hid (by rw [← hR]; exact RsOk.c _ _ _)
  rw [hR] at HK ⊢
  obtain ⟨E1, hE1⟩ : ∃ E1, (setmarkE E a (b != 0)) = E1 := ⟨_, rfl⟩
  rw [hE1] at HK ⊢
  clear hE1
  clear hR
  go_enter Tryz.func14, Tryz.ntmps14
  go_upto_region 1 with fail
  (try simp only [World.size_alloc, ho, hp])
  generalize hw2 : World.alloc (w.alloc _) _ = w2 at HX ⊢
  clear hw2 ho hp
  obtain ⟨o0, o1, o2, o3⟩ := HX.out.cells
  go_wp2_with fail
  refine (HK.out _ HX.out.mx.md.mm).mono ?_
  rintro e w3 ⟨rfl, H3⟩
  have HX3 := hid (HX.out.step H3.out)
  clear H3 HX o0 o1 o2 o3 HK
  go_wp2_with (refine wpList_store_blk rfl 46 _ _ rfl p rfl R rfl HX3.out.mx.b (by rw [HOK.out.len]; rfl) (by rw [HOK.out.len]; exact I0.out) HOK.out.one ?_; intro w9 HB9 HU9)
  refine bodyPost_ret (results_blk (cs := R) Tryz.results14 rfl (by rw [HOK.out.len]; exact agg_rs) HB9.out) rfl ?_
  exact ⟨rfl, hid (HX3.out.done HU9.out)⟩
set_option maxRecDepth 100000 in
set_option maxHeartbeats 1000000 in
theorem st38 (h : MM l E w) (a b c : Int) (ha : U64 a) (hb : U64 b) (hc : U64 c) : Calls Tryz.prog 14 #[.pointer (some ⟨l.m, 0, none⟩), .agg #[.int .u8 38, .int .u64 a, .int .u64 b, .int .u64 c]] w fun e w' => e = .returned (.agg (nlR E a b).toArray) ∧ Hid (MD w l E w') := by
  have I0 := hid info_rs
  have HR := hid (fun (cd : Int) (wz : World) => refM cd wz)
  have HA := hid (fun wz => ansM 0 0 wz)
  obtain ⟨o, ho⟩ : ∃ o, w.heap.size = o := ⟨_, rfl⟩
  obtain ⟨p, hp⟩ : ∃ p, o + 1 = p := ⟨_, rfl⟩
  have HX : Hid (MP w l E o p [.int .u8 38, .int .u64 a, .int .u64 b, .int .u64 c] ((w.alloc (.cells #[.int .u8 38, .int .u64 a, .int .u64 b, .int .u64 c] 31)).alloc (.cells #[.int .u8 0, .int .u64 0, .int .u64 0, .string { data := #[] }, .int .i64 0, .int .i64 0, .int .i64 0, .int .i64 0, .int .i64 0, .int .i64 0, .int .i64 0, .int .i64 0, .int .i64 0, .int .i64 0, .int .i64 0, .int .i64 0, .int .i64 0, .int .i64 0, .int .i64 0, .int .i64 0, .int .u8 0, .int .i64 0, .int .i64 0, .int .i64 0, .int .i64 0, .int .i64 0, .int .i64 0, .int .i64 0, .int .i64 0, .int .i64 0, .int .i64 0, .int .i64 0, .int .i64 0, .int .i64 0, .int .i64 0] 46))) := hid (MP.start h ho hp)
  clear h
  have HK := hid (fun wz (hz : MM l E wz) => nextLoggedM hz a b 1 (by decide) ha hb)
  obtain ⟨R, hR⟩ : ∃ R, nlR E a b = R := ⟨_, rfl⟩
  have HOK : Hid (RsOk R) := hid (by rw [← hR]; exact rk_nlR _ _ _)
  rw [hR] at HK ⊢
  clear hR
  go_enter Tryz.func14, Tryz.ntmps14
  go_upto_region 1 with fail
  (try simp only [World.size_alloc, ho, hp])
  generalize hw2 : World.alloc (w.alloc _) _ = w2 at HX ⊢
  clear hw2 ho hp
  obtain ⟨o0, o1, o2, o3⟩ := HX.out.cells
  go_wp2_with fail
  refine (HK.out _ HX.out.mx.md.mm).mono ?_
  rintro e w3 ⟨rfl, H3⟩
  have HX3 := hid (HX.out.step H3.out)
  clear H3 HX o0 o1 o2 o3 HK
  go_wp2_with (refine wpList_store_blk rfl 46 _ _ rfl p rfl R rfl HX3.out.mx.b (by rw [HOK.out.len]; rfl) (by rw [HOK.out.len]; exact I0.out) HOK.out.one ?_; intro w9 HB9 HU9)
  refine bodyPost_ret (results_blk (cs := R) Tryz.results14 rfl (by rw [HOK.out.len]; exact agg_rs) HB9.out) rfl ?_
  exact ⟨rfl, hid (HX3.out.done HU9.out)⟩
set_option maxRecDepth 100000 in
set_option maxHeartbeats 1000000 in
theorem st46 (h : MM l E w) (a b c : Int) (ha : U64 a) (hb : U64 b) (hc : U64 c) : Calls Tryz.prog 14 #[.pointer (some ⟨l.m, 0, none⟩), .agg #[.int .u8 46, .int .u64 a, .int .u64 b, .int .u64 c]] w fun e w' => e = .returned (.agg (owE E a).toArray) ∧ Hid (MD w l E w') := by
  have I0 := hid info_rs
  have HR := hid (fun (cd : Int) (wz : World) => refM cd wz)
  have HA := hid (fun wz => ansM 0 0 wz)
  obtain ⟨o, ho⟩ : ∃ o, w.heap.size = o := ⟨_, rfl⟩
  obtain ⟨p, hp⟩ : ∃ p, o + 1 = p := ⟨_, rfl⟩
  have HX : Hid (MP w l E o p [.int .u8 46, .int .u64 a, .int .u64 b, .int .u64 c] ((w.alloc (.cells #[.int .u8 46, .int .u64 a, .int .u64 b, .int .u64 c] 31)).alloc (.cells #[.int .u8 0, .int .u64 0, .int .u64 0, .string { data := #[] }, .int .i64 0, .int .i64 0, .int .i64 0, .int .i64 0, .int .i64 0, .int .i64 0, .int .i64 0, .int .i64 0, .int .i64 0, .int .i64 0, .int .i64 0, .int .i64 0, .int .i64 0, .int .i64 0, .int .i64 0, .int .i64 0, .int .u8 0, .int .i64 0, .int .i64 0, .int .i64 0, .int .i64 0, .int .i64 0, .int .i64 0, .int .i64 0, .int .i64 0, .int .i64 0, .int .i64 0, .int .i64 0, .int .i64 0, .int .i64 0, .int .i64 0] 46))) := hid (MP.start h ho hp)
  clear h
  have HK := hid (fun wz (hz : MM l E wz) => ownerOfM hz a)
  obtain ⟨R, hR⟩ : ∃ R, owE E a = R := ⟨_, rfl⟩
  have HOK : Hid (RsOk R) := hid (by rw [← hR]; exact rk_owE _ _)
  rw [hR] at HK ⊢
  clear hR
  go_enter Tryz.func14, Tryz.ntmps14
  go_upto_region 1 with fail
  (try simp only [World.size_alloc, ho, hp])
  generalize hw2 : World.alloc (w.alloc _) _ = w2 at HX ⊢
  clear hw2 ho hp
  obtain ⟨o0, o1, o2, o3⟩ := HX.out.cells
  go_wp2_with fail
  refine (HK.out _ HX.out.mx.md.mm).mono ?_
  rintro e w3 ⟨rfl, H3⟩
  have HX3 := hid (HX.out.step H3.out)
  clear H3 HX o0 o1 o2 o3 HK
  go_wp2_with (refine wpList_store_blk rfl 46 _ _ rfl p rfl R rfl HX3.out.mx.b (by rw [HOK.out.len]; rfl) (by rw [HOK.out.len]; exact I0.out) HOK.out.one ?_; intro w9 HB9 HU9)
  refine bodyPost_ret (results_blk (cs := R) Tryz.results14 rfl (by rw [HOK.out.len]; exact agg_rs) HB9.out) rfl ?_
  exact ⟨rfl, hid (HX3.out.done HU9.out)⟩
set_option maxRecDepth 100000 in
set_option maxHeartbeats 1000000 in
theorem st57 (h : MM l E w) (a b c : Int) (ha : U64 a) (hb : U64 b) (hc : U64 c) : Calls Tryz.prog 14 #[.pointer (some ⟨l.m, 0, none⟩), .agg #[.int .u8 57, .int .u64 a, .int .u64 b, .int .u64 c]] w fun e w' => e = .returned (.agg (txA (dsL E a.toNat)).toArray) ∧ Hid (MD w l E w') := by
  have I0 := hid info_rs
  have HR := hid (fun (cd : Int) (wz : World) => refM cd wz)
  have HA := hid (fun wz => ansM 0 0 wz)
  obtain ⟨o, ho⟩ : ∃ o, w.heap.size = o := ⟨_, rfl⟩
  obtain ⟨p, hp⟩ : ∃ p, o + 1 = p := ⟨_, rfl⟩
  have HX : Hid (MP w l E o p [.int .u8 57, .int .u64 a, .int .u64 b, .int .u64 c] ((w.alloc (.cells #[.int .u8 57, .int .u64 a, .int .u64 b, .int .u64 c] 31)).alloc (.cells #[.int .u8 0, .int .u64 0, .int .u64 0, .string { data := #[] }, .int .i64 0, .int .i64 0, .int .i64 0, .int .i64 0, .int .i64 0, .int .i64 0, .int .i64 0, .int .i64 0, .int .i64 0, .int .i64 0, .int .i64 0, .int .i64 0, .int .i64 0, .int .i64 0, .int .i64 0, .int .i64 0, .int .u8 0, .int .i64 0, .int .i64 0, .int .i64 0, .int .i64 0, .int .i64 0, .int .i64 0, .int .i64 0, .int .i64 0, .int .i64 0, .int .i64 0, .int .i64 0, .int .i64 0, .int .i64 0, .int .i64 0] 46))) := hid (MP.start h ho hp)
  clear h
  have HK := hid (fun wz (hz : MM l E wz) => sv57 hz a b c ha hb hc)
  obtain ⟨R, hR⟩ : ∃ R, txA (dsL E a.toNat) = R := ⟨_, rfl⟩
  have HOK : Hid (RsOk R) := hid (by rw [← hR]; exact rk_tx _)
  rw [hR] at HK ⊢
  clear hR
  go_enter Tryz.func14, Tryz.ntmps14
  go_upto_region 1 with fail
  (try simp only [World.size_alloc, ho, hp])
  generalize hw2 : World.alloc (w.alloc _) _ = w2 at HX ⊢
  clear hw2 ho hp
  obtain ⟨o0, o1, o2, o3⟩ := HX.out.cells
  go_wp2_with fail
  refine (HK.out _ HX.out.mx.md.mm).mono ?_
  rintro e w3 ⟨rfl, H3⟩
  have HX3 := hid (HX.out.step H3.out)
  clear H3 HX o0 o1 o2 o3 HK
  go_wp2_with (refine wpList_store_blk rfl 46 _ _ rfl p rfl R rfl HX3.out.mx.b (by rw [HOK.out.len]; rfl) (by rw [HOK.out.len]; exact I0.out) HOK.out.one ?_; intro w9 HB9 HU9)
  refine bodyPost_ret (results_blk (cs := R) Tryz.results14 rfl (by rw [HOK.out.len]; exact agg_rs) HB9.out) rfl ?_
  exact ⟨rfl, hid (HX3.out.done HU9.out)⟩
set_option maxRecDepth 100000 in
set_option maxHeartbeats 1000000 in
theorem st62 (h : MM l E w) (a b c : Int) (ha : U64 a) (hb : U64 b) (hc : U64 c) : Calls Tryz.prog 14 #[.pointer (some ⟨l.m, 0, none⟩), .agg #[.int .u8 62, .int .u64 a, .int .u64 b, .int .u64 c]] w fun e w' => e = .returned (.agg (deR a).toArray) ∧ Hid (MD w l E w') := by
  have I0 := hid info_rs
  have HR := hid (fun (cd : Int) (wz : World) => refM cd wz)
  have HA := hid (fun wz => ansM 0 0 wz)
  obtain ⟨o, ho⟩ : ∃ o, w.heap.size = o := ⟨_, rfl⟩
  obtain ⟨p, hp⟩ : ∃ p, o + 1 = p := ⟨_, rfl⟩
  have HX : Hid (MP w l E o p [.int .u8 62, .int .u64 a, .int .u64 b, .int .u64 c] ((w.alloc (.cells #[.int .u8 62, .int .u64 a, .int .u64 b, .int .u64 c] 31)).alloc (.cells #[.int .u8 0, .int .u64 0, .int .u64 0, .string { data := #[] }, .int .i64 0, .int .i64 0, .int .i64 0, .int .i64 0, .int .i64 0, .int .i64 0, .int .i64 0, .int .i64 0, .int .i64 0, .int .i64 0, .int .i64 0, .int .i64 0, .int .i64 0, .int .i64 0, .int .i64 0, .int .i64 0, .int .u8 0, .int .i64 0, .int .i64 0, .int .i64 0, .int .i64 0, .int .i64 0, .int .i64 0, .int .i64 0, .int .i64 0, .int .i64 0, .int .i64 0, .int .i64 0, .int .i64 0, .int .i64 0, .int .i64 0] 46))) := hid (MP.start h ho hp)
  clear h
  have HK := hid (fun wz (hz : MM l E wz) => decM hz a)
  obtain ⟨R, hR⟩ : ∃ R, deR a = R := ⟨_, rfl⟩
  have HOK : Hid (RsOk R) := hid (by rw [← hR]; exact rk_deR _)
  rw [hR] at HK ⊢
  clear hR
  go_enter Tryz.func14, Tryz.ntmps14
  go_upto_region 1 with fail
  (try simp only [World.size_alloc, ho, hp])
  generalize hw2 : World.alloc (w.alloc _) _ = w2 at HX ⊢
  clear hw2 ho hp
  obtain ⟨o0, o1, o2, o3⟩ := HX.out.cells
  go_wp2_with fail
  refine (HK.out _ HX.out.mx.md.mm).mono ?_
  rintro e w3 ⟨rfl, H3⟩
  have HX3 := hid (HX.out.step H3.out)
  clear H3 HX o0 o1 o2 o3 HK
  go_wp2_with (refine wpList_store_blk rfl 46 _ _ rfl p rfl R rfl HX3.out.mx.b (by rw [HOK.out.len]; rfl) (by rw [HOK.out.len]; exact I0.out) HOK.out.one ?_; intro w9 HB9 HU9)
  refine bodyPost_ret (results_blk (cs := R) Tryz.results14 rfl (by rw [HOK.out.len]; exact agg_rs) HB9.out) rfl ?_
  exact ⟨rfl, hid (HX3.out.done HU9.out)⟩
end
end Go.Proofs.Qxb6500887aGreat
