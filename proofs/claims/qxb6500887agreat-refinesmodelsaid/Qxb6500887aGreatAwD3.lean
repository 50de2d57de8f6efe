/- Steps of the model that call on (written by tools/mk_awc.py). -/
import Derived.Test.Qxb6500887aGreatAwC
import Derived.Deep.DeepCutAuto
namespace Go.Proofs.Qxb6500887aGreat
open Go.RowKit
set_option linter.unusedSimpArgs false
set_option linter.unusedVariables false
section
variable {l : ML} {E E' : ES} {w w' w0 w3 w4 : World} {o p r : Nat} {oc rs : List Value}
set_option maxRecDepth 100000 in
set_option maxHeartbeats 1000000 in
theorem st10 (h : MM l E w) (a b c : Int) (ha : U64 a) (hb : U64 b) (hc : U64 c) : Calls Tryz.prog 14 #[.pointer (some ⟨l.m, 0, none⟩), .agg #[.int .u8 10, .int .u64 a, .int .u64 b, .int .u64 c]] w fun e w' => e = .returned (.agg (rsG (dtE E.W a (nbI b)) ((65536 + dtAt E.W a (nbI b) : Nat) : Int) 0).toArray) ∧ Hid (MD w l E w') := by
  have I0 := hid info_rs
  have HR := hid (fun (cd : Int) (wz : World) => refM cd wz)
  have HA := hid (fun wz => ansM 0 0 wz)
  obtain ⟨o, ho⟩ : ∃ o, w.heap.size = o := ⟨_, rfl⟩
  obtain ⟨p, hp⟩ : ∃ p, o + 1 = p := ⟨_, rfl⟩
  have HX : Hid (MP w l E o p [.int .u8 10, .int .u64 a, .int .u64 b, .int .u64 c] ((w.alloc (.cells #[.int .u8 10, .int .u64 a, .int .u64 b, .int .u64 c] 31)).alloc (.cells #[.int .u8 0, .int .u64 0, .int .u64 0, .string { data := #[] }, .int .i64 0, .int .i64 0, .int .i64 0, .int .i64 0, .int .i64 0, .int .i64 0, .int .i64 0, .int .i64 0, .int .i64 0, .int .i64 0, .int .i64 0, .int .i64 0, .int .i64 0, .int .i64 0, .int .i64 0, .int .i64 0, .int .u8 0, .int .i64 0, .int .i64 0, .int .i64 0, .int .i64 0, .int .i64 0, .int .i64 0, .int .i64 0, .int .i64 0, .int .i64 0, .int .i64 0, .int .i64 0, .int .i64 0, .int .i64 0, .int .i64 0] 46))) := hid (MP.start h ho hp)
  clear h
  have HK := hid (fun wz (hz : MM l E wz) => data10 hz a b c ha hb hc)
  obtain ⟨R, hR⟩ : ∃ R, rsG (dtE E.W a (nbI b)) ((65536 + dtAt E.W a (nbI b) : Nat) : Int) 0 = R := ⟨_, rfl⟩
  have HOK : Hid (RsOk R) := hid (by rw [← hR]; exact RsOk.g _ _ _)
  rw [hR] at HK ⊢
  clear hR
  go_enter Tryz.func14, Tryz.ntmps14
  go_upto_region 1 with fail
  (try simp only [World.size_alloc, ho, hp])
  generalize hw2 : World.alloc (w.alloc _) _ = w2 at HX ⊢
  clear hw2 ho hp
  obtain ⟨o0, o1, o2, o3⟩ := HX.out.cells
  go_wp2_with fail
  refine (HK.out _ HX.out.mx.md.mm).mono ?_
  rintro e w3 ⟨rfl, H3⟩
  have HX3 := hid (HX.out.step H3.out)
  clear H3 HX o0 o1 o2 o3 HK
  go_wp2_with (refine wpList_store_blk rfl 46 _ _ rfl p rfl R rfl HX3.out.mx.b (by rw [HOK.out.len]; rfl) (by rw [HOK.out.len]; exact I0.out) HOK.out.one ?_; intro w9 HB9 HU9)
  refine bodyPost_ret (results_blk (cs := R) Tryz.results14 rfl (by rw [HOK.out.len]; exact agg_rs) HB9.out) rfl ?_
  exact ⟨rfl, hid (HX3.out.done HU9.out)⟩
set_option maxRecDepth 100000 in
set_option maxHeartbeats 1000000 in
theorem st16 (h : MM l E w) (a b c : Int) (ha : U64 a) (hb : U64 b) (hc : U64 c) : Calls Tryz.prog 14 #[.pointer (some ⟨l.m, 0, none⟩), .agg #[.int .u8 16, .int .u64 a, .int .u64 b, .int .u64 c]] w fun e w' => e = .returned (.agg (rsG (wantO a) ((E.C (gIx a) : Nat) : Int) 0).toArray) ∧ Hid (MD w l E w') := by
  have I0 := hid info_rs
  have HR := hid (fun (cd : Int) (wz : World) => refM cd wz)
  have HA := hid (fun wz => ansM 0 0 wz)
  obtain ⟨o, ho⟩ : ∃ o, w.heap.size = o := ⟨_, rfl⟩
  obtain ⟨p, hp⟩ : ∃ p, o + 1 = p := ⟨_, rfl⟩
  have HX : Hid (MP w l E o p [.int .u8 16, .int .u64 a, .int .u64 b, .int .u64 c] ((w.alloc (.cells #[.int .u8 16, .int .u64 a, .int .u64 b, .int .u64 c] 31)).alloc (.cells #[.int .u8 0, .int .u64 0, .int .u64 0, .string { data := #[] }, .int .i64 0, .int .i64 0, .int .i64 0, .int .i64 0, .int .i64 0, .int .i64 0, .int .i64 0, .int .i64 0, .int .i64 0, .int .i64 0, .int .i64 0, .int .i64 0, .int .i64 0, .int .i64 0, .int .i64 0, .int .i64 0, .int .u8 0, .int .i64 0, .int .i64 0, .int .i64 0, .int .i64 0, .int .i64 0, .int .i64 0, .int .i64 0, .int .i64 0, .int .i64 0, .int .i64 0, .int .i64 0, .int .i64 0, .int .i64 0, .int .i64 0] 46))) := hid (MP.start h ho hp)
  clear h
  have HK := hid (fun wz (hz : MM l E wz) => count16 hz a b c ha hb hc)
  obtain ⟨R, hR⟩ : ∃ R, rsG (wantO a) ((E.C (gIx a) : Nat) : Int) 0 = R := ⟨_, rfl⟩
  have HOK : Hid (RsOk R) := hid (by rw [← hR]; exact RsOk.g _ _ _)
  rw [hR] at HK ⊢
  clear hR
  go_enter Tryz.func14, Tryz.ntmps14
  go_upto_region 1 with fail
  (try simp only [World.size_alloc, ho, hp])
  generalize hw2 : World.alloc (w.alloc _) _ = w2 at HX ⊢
  clear hw2 ho hp
  obtain ⟨o0, o1, o2, o3⟩ := HX.out.cells
  go_wp2_with fail
  refine (HK.out _ HX.out.mx.md.mm).mono ?_
  rintro e w3 ⟨rfl, H3⟩
  have HX3 := hid (HX.out.step H3.out)
  clear H3 HX o0 o1 o2 o3 HK
  go_wp2_with (refine wpList_store_blk rfl 46 _ _ rfl p rfl R rfl HX3.out.mx.b (by rw [HOK.out.len]; rfl) (by rw [HOK.out.len]; exact I0.out) HOK.out.one ?_; intro w9 HB9 HU9)
  refine bodyPost_ret (results_blk (cs := R) Tryz.results14 rfl (by rw [HOK.out.len]; exact agg_rs) HB9.out) rfl ?_
  exact ⟨rfl, hid (HX3.out.done HU9.out)⟩
set_option maxRecDepth 100000 in
set_option maxHeartbeats 1000000 in
theorem st23 (h : MM l E w) (a b c : Int) (ha : U64 a) (hb : U64 b) (hc : U64 c) : Calls Tryz.prog 14 #[.pointer (some ⟨l.m, 0, none⟩), .agg #[.int .u8 23, .int .u64 a, .int .u64 b, .int .u64 c]] w fun e w' => e = .returned (.agg (rsG (wantO a) ((bitN (E.K (gIx a)) : Nat) : Int) 0).toArray) ∧ Hid (MD w l E w') := by
  have I0 := hid info_rs
  have HR := hid (fun (cd : Int) (wz : World) => refM cd wz)
  have HA := hid (fun wz => ansM 0 0 wz)
  obtain ⟨o, ho⟩ : ∃ o, w.heap.size = o := ⟨_, rfl⟩
  obtain ⟨p, hp⟩ : ∃ p, o + 1 = p := ⟨_, rfl⟩
  have HX : Hid (MP w l E o p [.int .u8 23, .int .u64 a, .int .u64 b, .int .u64 c] ((w.alloc (.cells #[.int .u8 23, .int .u64 a, .int .u64 b, .int .u64 c] 31)).alloc (.cells #[.int .u8 0, .int .u64 0, .int .u64 0, .string { data := #[] }, .int .i64 0, .int .i64 0, .int .i64 0, .int .i64 0, .int .i64 0, .int .i64 0, .int .i64 0, .int .i64 0, .int .i64 0, .int .i64 0, .int .i64 0, .int .i64 0, .int .i64 0, .int .i64 0, .int .i64 0, .int .i64 0, .int .u8 0, .int .i64 0, .int .i64 0, .int .i64 0, .int .i64 0, .int .i64 0, .int .i64 0, .int .i64 0, .int .i64 0, .int .i64 0, .int .i64 0, .int .i64 0, .int .i64 0, .int .i64 0, .int .i64 0] 46))) := hid (MP.start h ho hp)
  clear h
  have HK := hid (fun wz (hz : MM l E wz) => mark23 hz a b c ha hb hc)
  obtain ⟨R, hR⟩ : ∃ R, rsG (wantO a) ((bitN (E.K (gIx a)) : Nat) : Int) 0 = R := ⟨_, rfl⟩
  have HOK : Hid (RsOk R) := hid (by rw [← hR]; exact RsOk.g _ _ _)
  rw [hR] at HK ⊢
  clear hR
  go_enter Tryz.func14, Tryz.ntmps14
  go_upto_region 1 with fail
  (try simp only [World.size_alloc, ho, hp])
  generalize hw2 : World.alloc (w.alloc _) _ = w2 at HX ⊢
  clear hw2 ho hp
  obtain ⟨o0, o1, o2, o3⟩ := HX.out.cells
  go_wp2_with fail
  refine (HK.out _ HX.out.mx.md.mm).mono ?_
  rintro e w3 ⟨rfl, H3⟩
  have HX3 := hid (HX.out.step H3.out)
  clear H3 HX o0 o1 o2 o3 HK
  go_wp2_with (refine wpList_store_blk rfl 46 _ _ rfl p rfl R rfl HX3.out.mx.b (by rw [HOK.out.len]; rfl) (by rw [HOK.out.len]; exact I0.out) HOK.out.one ?_; intro w9 HB9 HU9)
  refine bodyPost_ret (results_blk (cs := R) Tryz.results14 rfl (by rw [HOK.out.len]; exact agg_rs) HB9.out) rfl ?_
  exact ⟨rfl, hid (HX3.out.done HU9.out)⟩
set_option maxRecDepth 100000 in
set_option maxHeartbeats 1000000 in
theorem st37 (h : MM l E w) (a b c : Int) (ha : U64 a) (hb : U64 b) (hc : U64 c) : Calls Tryz.prog 14 #[.pointer (some ⟨l.m, 0, none⟩), .agg #[.int .u8 37, .int .u64 a, .int .u64 b, .int .u64 c]] w fun e w' => e = .returned (.agg (noR (hit37 E) a b).toArray) ∧ Hid (MD w l E w') := by
  have I0 := hid info_rs
  have HR := hid (fun (cd : Int) (wz : World) => refM cd wz)
  have HA := hid (fun wz => ansM 0 0 wz)
  obtain ⟨o, ho⟩ : ∃ o, w.heap.size = o := ⟨_, rfl⟩
  obtain ⟨p, hp⟩ : ∃ p, o + 1 = p := ⟨_, rfl⟩
  have HX : Hid (MP w l E o p [.int .u8 37, .int .u64 a, .int .u64 b, .int .u64 c] ((w.alloc (.cells #[.int .u8 37, .int .u64 a, .int .u64 b, .int .u64 c] 31)).alloc (.cells #[.int .u8 0, .int .u64 0, .int .u64 0, .string { data := #[] }, .int .i64 0, .int .i64 0, .int .i64 0, .int .i64 0, .int .i64 0, .int .i64 0, .int .i64 0, .int .i64 0, .int .i64 0, .int .i64 0, .int .i64 0, .int .i64 0, .int .i64 0, .int .i64 0, .int .i64 0, .int .i64 0, .int .u8 0, .int .i64 0, .int .i64 0, .int .i64 0, .int .i64 0, .int .i64 0, .int .i64 0, .int .i64 0, .int .i64 0, .int .i64 0, .int .i64 0, .int .i64 0, .int .i64 0, .int .i64 0, .int .i64 0] 46))) := hid (MP.start h ho hp)
  clear h
  have HK := hid (fun wz (hz : MM l E wz) => next37 hz a b c ha hb hc)
  obtain ⟨R, hR⟩ : ∃ R, noR (hit37 E) a b = R := ⟨_, rfl⟩
  have HOK : Hid (RsOk R) := hid (by rw [← hR]; exact rk_noR _ _ _)
  rw [hR] at HK ⊢
  clear hR
  go_enter Tryz.func14, Tryz.ntmps14
  go_upto_region 1 with fail
  (try simp only [World.size_alloc, ho, hp])
  generalize hw2 : World.alloc (w.alloc _) _ = w2 at HX ⊢
  clear hw2 ho hp
  obtain ⟨o0, o1, o2, o3⟩ := HX.out.cells
  go_wp2_with fail
  refine (HK.out _ HX.out.mx.md.mm).mono ?_
  rintro e w3 ⟨rfl, H3⟩
  have HX3 := hid (HX.out.step H3.out)
  clear H3 HX o0 o1 o2 o3 HK
  go_wp2_with (refine wpList_store_blk rfl 46 _ _ rfl p rfl R rfl HX3.out.mx.b (by rw [HOK.out.len]; rfl) (by rw [HOK.out.len]; exact I0.out) HOK.out.one ?_; intro w9 HB9 HU9)
  refine bodyPost_ret (results_blk (cs := R) Tryz.results14 rfl (by rw [HOK.out.len]; exact agg_rs) HB9.out) rfl ?_
  exact ⟨rfl, hid (HX3.out.done HU9.out)⟩
set_option maxRecDepth 100000 in
set_option maxHeartbeats 1000000 in
theorem st45 (h : MM l E w) (a b c : Int) (ha : U64 a) (hb : U64 b) (hc : U64 c) : Calls Tryz.prog 14 #[.pointer (some ⟨l.m, 0, none⟩), .agg #[.int .u8 45, .int .u64 a, .int .u64 b, .int .u64 c]] w fun e w' => e = .returned (.agg (efR E.W a b.toNat).toArray) ∧ Hid (MD w l E w') := by
  have I0 := hid info_rs
  have HR := hid (fun (cd : Int) (wz : World) => refM cd wz)
  have HA := hid (fun wz => ansM 0 0 wz)
  obtain ⟨o, ho⟩ : ∃ o, w.heap.size = o := ⟨_, rfl⟩
  obtain ⟨p, hp⟩ : ∃ p, o + 1 = p := ⟨_, rfl⟩
  have HX : Hid (MP w l E o p [.int .u8 45, .int .u64 a, .int .u64 b, .int .u64 c] ((w.alloc (.cells #[.int .u8 45, .int .u64 a, .int .u64 b, .int .u64 c] 31)).alloc (.cells #[.int .u8 0, .int .u64 0, .int .u64 0, .string { data := #[] }, .int .i64 0, .int .i64 0, .int .i64 0, .int .i64 0, .int .i64 0, .int .i64 0, .int .i64 0, .int .i64 0, .int .i64 0, .int .i64 0, .int .i64 0, .int .i64 0, .int .i64 0, .int .i64 0, .int .i64 0, .int .i64 0, .int .u8 0, .int .i64 0, .int .i64 0, .int .i64 0, .int .i64 0, .int .i64 0, .int .i64 0, .int .i64 0, .int .i64 0, .int .i64 0, .int .i64 0, .int .i64 0, .int .i64 0, .int .i64 0, .int .i64 0] 46))) := hid (MP.start h ho hp)
  clear h
  obtain ⟨mo, hmo⟩ : ∃ mo : Nat, b = (mo : Int) := ⟨b.toNat, by have := hb.1; omega⟩
  subst hmo
  have hmb : mo < 18446744073709551616 := by have := hb.2; omega
  rw [show ((mo : Int)).toNat = mo by omega]
  have HK := hid (fun wz (hz : MM l E wz) => eachFieldM hz a mo hmb)
  obtain ⟨R, hR⟩ : ∃ R, efR E.W a mo = R := ⟨_, rfl⟩
  have HOK : Hid (RsOk R) := hid (by rw [← hR]; exact rk_efR _ _ _)
  rw [hR] at HK ⊢
  clear hR
  go_enter Tryz.func14, Tryz.ntmps14
  go_upto_region 1 with fail
  (try simp only [World.size_alloc, ho, hp])
  generalize hw2 : World.alloc (w.alloc _) _ = w2 at HX ⊢
  clear hw2 ho hp
  obtain ⟨o0, o1, o2, o3⟩ := HX.out.cells
  go_wp2_with fail
  refine (HK.out _ HX.out.mx.md.mm).mono ?_
  rintro e w3 ⟨rfl, H3⟩
  have HX3 := hid (HX.out.step H3.out)
  clear H3 HX o0 o1 o2 o3 HK
  go_wp2_with (refine wpList_store_blk rfl 46 _ _ rfl p rfl R rfl HX3.out.mx.b (by rw [HOK.out.len]; rfl) (by rw [HOK.out.len]; exact I0.out) HOK.out.one ?_; intro w9 HB9 HU9)
  refine bodyPost_ret (results_blk (cs := R) Tryz.results14 rfl (by rw [HOK.out.len]; exact agg_rs) HB9.out) rfl ?_
  exact ⟨rfl, hid (HX3.out.done HU9.out)⟩
set_option maxRecDepth 100000 in
set_option maxHeartbeats 1000000 in
theorem st56 (h : MM l E w) (a b c : Int) (ha : U64 a) (hb : U64 b) (hc : U64 c) : Calls Tryz.prog 14 #[.pointer (some ⟨l.m, 0, none⟩), .agg #[.int .u8 56, .int .u64 a, .int .u64 b, .int .u64 c]] w fun e w' => e = .returned (.agg (txA (hmL E)).toArray) ∧ Hid (MD w l E w') := by
  have I0 := hid info_rs
  have HR := hid (fun (cd : Int) (wz : World) => refM cd wz)
  have HA := hid (fun wz => ansM 0 0 wz)
  obtain ⟨o, ho⟩ : ∃ o, w.heap.size = o := ⟨_, rfl⟩
  obtain ⟨p, hp⟩ : ∃ p, o + 1 = p := ⟨_, rfl⟩
  have HX : Hid (MP w l E o p [.int .u8 56, .int .u64 a, .int .u64 b, .int .u64 c] ((w.alloc (.cells #[.int .u8 56, .int .u64 a, .int .u64 b, .int .u64 c] 31)).alloc (.cells #[.int .u8 0, .int .u64 0, .int .u64 0, .string { data := #[] }, .int .i64 0, .int .i64 0, .int .i64 0, .int .i64 0, .int .i64 0, .int .i64 0, .int .i64 0, .int .i64 0, .int .i64 0, .int .i64 0, .int .i64 0, .int .i64 0, .int .i64 0, .int .i64 0, .int .i64 0, .int .i64 0, .int .u8 0, .int .i64 0, .int .i64 0, .int .i64 0, .int .i64 0, .int .i64 0, .int .i64 0, .int .i64 0, .int .i64 0, .int .i64 0, .int .i64 0, .int .i64 0, .int .i64 0, .int .i64 0, .int .i64 0] 46))) := hid (MP.start h ho hp)
  clear h
  have HK := hid (fun wz (hz : MM l E wz) => sv56 hz a b c ha hb hc)
  obtain ⟨R, hR⟩ : ∃ R, txA (hmL E) = R := ⟨_, rfl⟩
  have HOK : Hid (RsOk R) := hid (by rw [← hR]; exact rk_tx _)
  rw [hR] at HK ⊢
  clear hR
  go_enter Tryz.func14, Tryz.ntmps14
  go_upto_region 1 with fail
  (try simp only [World.size_alloc, ho, hp])
  generalize hw2 : World.alloc (w.alloc _) _ = w2 at HX ⊢
  clear hw2 ho hp
  obtain ⟨o0, o1, o2, o3⟩ := HX.out.cells
  go_wp2_with fail
  refine (HK.out _ HX.out.mx.md.mm).mono ?_
  rintro e w3 ⟨rfl, H3⟩
  have HX3 := hid (HX.out.step H3.out)
  clear H3 HX o0 o1 o2 o3 HK
  go_wp2_with (refine wpList_store_blk rfl 46 _ _ rfl p rfl R rfl HX3.out.mx.b (by rw [HOK.out.len]; rfl) (by rw [HOK.out.len]; exact I0.out) HOK.out.one ?_; intro w9 HB9 HU9)
  refine bodyPost_ret (results_blk (cs := R) Tryz.results14 rfl (by rw [HOK.out.len]; exact agg_rs) HB9.out) rfl ?_
  exact ⟨rfl, hid (HX3.out.done HU9.out)⟩
set_option maxRecDepth 100000 in
set_option maxHeartbeats 1000000 in
theorem st61 (h : MM l E w) (a b c : Int) (ha : U64 a) (hb : U64 b) (hc : U64 c) : Calls Tryz.prog 14 #[.pointer (some ⟨l.m, 0, none⟩), .agg #[.int .u8 61, .int .u64 a, .int .u64 b, .int .u64 c]] w fun e w' => e = .returned (.agg (ceA E).toArray) ∧ Hid (MD w l E w') := by
  have I0 := hid info_rs
  have HR := hid (fun (cd : Int) (wz : World) => refM cd wz)
  have HA := hid (fun wz => ansM 0 0 wz)
  obtain ⟨o, ho⟩ : ∃ o, w.heap.size = o := ⟨_, rfl⟩
  obtain ⟨p, hp⟩ : ∃ p, o + 1 = p := ⟨_, rfl⟩
  have HX : Hid (MP w l E o p [.int .u8 61, .int .u64 a, .int .u64 b, .int .u64 c] ((w.alloc (.cells #[.int .u8 61, .int .u64 a, .int .u64 b, .int .u64 c] 31)).alloc (.cells #[.int .u8 0, .int .u64 0, .int .u64 0, .string { data := #[] }, .int .i64 0, .int .i64 0, .int .i64 0, .int .i64 0, .int .i64 0, .int .i64 0, .int .i64 0, .int .i64 0, .int .i64 0, .int .i64 0, .int .i64 0, .int .i64 0, .int .i64 0, .int .i64 0, .int .i64 0, .int .i64 0, .int .u8 0, .int .i64 0, .int .i64 0, .int .i64 0, .int .i64 0, .int .i64 0, .int .i64 0, .int .i64 0, .int .i64 0, .int .i64 0, .int .i64 0, .int .i64 0, .int .i64 0, .int .i64 0, .int .i64 0] 46))) := hid (MP.start h ho hp)
  clear h
  have HK := hid (fun wz (hz : MM l E wz) => sv61 hz a b c ha hb hc)
  obtain ⟨R, hR⟩ : ∃ R, ceA E = R := ⟨_, rfl⟩
  have HOK : Hid (RsOk R) := hid (by rw [← hR]; exact rk_ce _)
  rw [hR] at HK ⊢
  clear hR
  go_enter Tryz.func14, Tryz.ntmps14
  go_upto_region 1 with fail
  (try simp only [World.size_alloc, ho, hp])
  generalize hw2 : World.alloc (w.alloc _) _ = w2 at HX ⊢
  clear hw2 ho hp
  obtain ⟨o0, o1, o2, o3⟩ := HX.out.cells
  go_wp2_with fail
  refine (HK.out _ HX.out.mx.md.mm).mono ?_
  rintro e w3 ⟨rfl, H3⟩
  have HX3 := hid (HX.out.step H3.out)
  clear H3 HX o0 o1 o2 o3 HK
  go_wp2_with (refine wpList_store_blk rfl 46 _ _ rfl p rfl R rfl HX3.out.mx.b (by rw [HOK.out.len]; rfl) (by rw [HOK.out.len]; exact I0.out) HOK.out.one ?_; intro w9 HB9 HU9)
  refine bodyPost_ret (results_blk (cs := R) Tryz.results14 rfl (by rw [HOK.out.len]; exact agg_rs) HB9.out) rfl ?_
  exact ⟨rfl, hid (HX3.out.done HU9.out)⟩
set_option maxRecDepth 100000 in
set_option maxHeartbeats 1000000 in
theorem st66 (h : MM l E w) (a b c : Int) (ha : U64 a) (hb : U64 b) (hc : U64 c) : Calls Tryz.prog 14 #[.pointer (some ⟨l.m, 0, none⟩), .agg #[.int .u8 66, .int .u64 a, .int .u64 b, .int .u64 c]] w fun e w' => e = .returned (.agg (btR (hit66 E) false a b).toArray) ∧ Hid (MD w l E w') := by
  have I0 := hid info_rs
  have HR := hid (fun (cd : Int) (wz : World) => refM cd wz)
  have HA := hid (fun wz => ansM 0 0 wz)
  obtain ⟨o, ho⟩ : ∃ o, w.heap.size = o := ⟨_, rfl⟩
  obtain ⟨p, hp⟩ : ∃ p, o + 1 = p := ⟨_, rfl⟩
  have HX : Hid (MP w l E o p [.int .u8 66, .int .u64 a, .int .u64 b, .int .u64 c] ((w.alloc (.cells #[.int .u8 66, .int .u64 a, .int .u64 b, .int .u64 c] 31)).alloc (.cells #[.int .u8 0, .int .u64 0, .int .u64 0, .string { data := #[] }, .int .i64 0, .int .i64 0, .int .i64 0, .int .i64 0, .int .i64 0, .int .i64 0, .int .i64 0, .int .i64 0, .int .i64 0, .int .i64 0, .int .i64 0, .int .i64 0, .int .i64 0, .int .i64 0, .int .i64 0, .int .i64 0, .int .u8 0, .int .i64 0, .int .i64 0, .int .i64 0, .int .i64 0, .int .i64 0, .int .i64 0, .int .i64 0, .int .i64 0, .int .i64 0, .int .i64 0, .int .i64 0, .int .i64 0, .int .i64 0, .int .i64 0] 46))) := hid (MP.start h ho hp)
  clear h
  have HK := hid (fun wz (hz : MM l E wz) => btw66 hz a b c ha hb hc)
  obtain ⟨R, hR⟩ : ∃ R, btR (hit66 E) false a b = R := ⟨_, rfl⟩
  have HOK : Hid (RsOk R) := hid (by rw [← hR]; exact rk_btR _ _ _ _)
  rw [hR] at HK ⊢
  clear hR
  go_enter Tryz.func14, Tryz.ntmps14
  go_upto_region 1 with fail
  (try simp only [World.size_alloc, ho, hp])
  generalize hw2 : World.alloc (w.alloc _) _ = w2 at HX ⊢
  clear hw2 ho hp
  obtain ⟨o0, o1, o2, o3⟩ := HX.out.cells
  go_wp2_with fail
  refine (HK.out _ HX.out.mx.md.mm).mono ?_
  rintro e w3 ⟨rfl, H3⟩
  have HX3 := hid (HX.out.step H3.out)
  clear H3 HX o0 o1 o2 o3 HK
  go_wp2_with (refine wpList_store_blk rfl 46 _ _ rfl p rfl R rfl HX3.out.mx.b (by rw [HOK.out.len]; rfl) (by rw [HOK.out.len]; exact I0.out) HOK.out.one ?_; intro w9 HB9 HU9)
  refine bodyPost_ret (results_blk (cs := R) Tryz.results14 rfl (by rw [HOK.out.len]; exact agg_rs) HB9.out) rfl ?_
  exact ⟨rfl, hid (HX3.out.done HU9.out)⟩
end
end Go.Proofs.Qxb6500887aGreat
