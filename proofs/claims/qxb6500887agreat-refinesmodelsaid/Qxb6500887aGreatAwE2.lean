/- Steps of the model that call on, drawn (written by tools/mk_awc.py). -/
import Derived.Test.Qxb6500887aGreatAwC
import Derived.Deep.DeepCutAuto
namespace Go.Proofs.Qxb6500887aGreat
open Go.RowKit
set_option linter.unusedSimpArgs false
set_option linter.unusedVariables false
section
variable {l : ML} {E E' : ES} {w w' w0 w3 w4 : World} {o p r : Nat} {oc rs : List Value}
set_option maxRecDepth 100000 in
set_option maxHeartbeats 1000000 in
theorem st3 (h : MM l E w) (a b c : Int) (ha : U64 a) (hb : U64 b) (hc : U64 c) : Calls Tryz.prog 14 #[.pointer (some ⟨l.m, 0, none⟩), .agg #[.int .u8 3, .int .u64 a, .int .u64 b, .int .u64 c]] w fun e w' => e = .returned (.agg (izR E a (nbI b)).toArray) ∧ Hid (MD w l E w') := by
  have I0 := hid info_rs
  have HR := hid (fun (cd : Int) (wz : World) => refM cd wz)
  have HA := hid (fun wz => ansM 0 0 wz)
  obtain ⟨o, ho⟩ : ∃ o, w.heap.size = o := ⟨_, rfl⟩
  obtain ⟨p, hp⟩ : ∃ p, o + 1 = p := ⟨_, rfl⟩
  have HX : Hid (MP w l E o p [.int .u8 3, .int .u64 a, .int .u64 b, .int .u64 c] ((w.alloc (.cells #[.int .u8 3, .int .u64 a, .int .u64 b, .int .u64 c] 31)).alloc (.cells #[.int .u8 0, .int .u64 0, .int .u64 0, .string { data := #[] }, .int .i64 0, .int .i64 0, .int .i64 0, .int .i64 0, .int .i64 0, .int .i64 0, .int .i64 0, .int .i64 0, .int .i64 0, .int .i64 0, .int .i64 0, .int .i64 0, .int .i64 0, .int .i64 0, .int .i64 0, .int .i64 0, .int .u8 0, .int .i64 0, .int .i64 0, .int .i64 0, .int .i64 0, .int .i64 0, .int .i64 0, .int .i64 0, .int .i64 0, .int .i64 0, .int .i64 0, .int .i64 0, .int .i64 0, .int .i64 0, .int .i64 0] 46))) := hid (MP.start h ho hp)
  clear h
  obtain ⟨nb, hnb⟩ : ∃ n, nbI b = n := ⟨_, rfl⟩
  have HNb : Hid (∀ wz, Calls Tryz.prog 92 #[.int .u64 b] wz fun e w' => e = .returned (.int .i64 nb) ∧ w' = wz) := hid (fun wz => by
    have := numM b hb wz
    rw [hnb] at this
    exact this)
  have hrb : -9223372036854775808 ≤ nb ∧ nb < 9223372036854775808 := by rw [← hnb]; exact nbI_rng b
  rw [hnb]
  clear hnb
  have HK := hid (fun wz (hz : MM l E wz) => isZeroM hz a nb hrb)
  obtain ⟨R, hR⟩ : ∃ R, izR E a nb = R := ⟨_, rfl⟩
  have HOK : Hid (RsOk R) := hid (by rw [← hR]; exact rk_izR _ _ _)
  rw [hR] at HK ⊢
  clear hR
  go_enter Tryz.func14, Tryz.ntmps14
  go_upto_region 1 with fail
  (try simp only [World.size_alloc, ho, hp])
  generalize hw2 : World.alloc (w.alloc _) _ = w2 at HX ⊢
  clear hw2 ho hp
  obtain ⟨o0, o1, o2, o3⟩ := HX.out.cells
  go_upto_region 17 with fail
  refine wp_region_heavy (fun wz => Blk wz o 31 [.int .u8 3, .int .u64 a, .int .u64 b, .int .u64 c]) 7 [0, 1, 2, 3, 4, 5] [6] rfl (by kernel_rfl) (by kernel_rfl) (fun d _ _ _ _ h => by cases d <;> exact h) (HX.out.below (Drew.below ⟨1, rfl⟩ _)).op ?_
  apply Exists.intro
  refine ⟨?_, ?_⟩
  · intro W hW
    have d1 : ∀ x, (W x).cell? ⟨o, 1, none⟩ = some (.int .u64 a) := fun x => (hW x).cell 1
    have d2 : ∀ x, (W x).cell? ⟨o, 2, none⟩ = some (.int .u64 b) := fun x => (hW x).cell 2
    have d3 : ∀ x, (W x).cell? ⟨o, 3, none⟩ = some (.int .u64 c) := fun x => (hW x).cell 3
    clear hW
    simp only [List.take, opsAt, List.drop, List.cons_append, List.nil_append]
    repeat (go_big_quiet_step (first | (go_at_call 92; first | with_reducible exact Calls.class_same (HNb.out _))))
    exact rfl
  simp only [List.take, List.drop, opsAt, List.cons_append, List.nil_append, wpHv]
  have HD : Hid (MP w l E o p [.int .u8 3, .int .u64 a, .int .u64 b, .int .u64 c] w2.drew) := hid (HX.out.below (Drew.below ⟨1, rfl⟩ _))
  generalize w2.drew = wd at HD ⊢
  clear HX o0 o1 o2 o3
  go_wp2_with fail
  refine (HK.out _ HD.out.mx.md.mm).mono ?_
  rintro e w3 ⟨rfl, H3⟩
  have HX3 := hid (HD.out.step H3.out)
  clear H3 HD HK
  go_wp2_with fail
  refine ⟨HX3.out.op, ?_⟩
  simp only [QN]
  go_wp2_with (refine wpList_store_blk rfl 46 _ _ rfl p rfl R rfl HX3.out.mx.b (by rw [HOK.out.len]; rfl) (by rw [HOK.out.len]; exact I0.out) HOK.out.one ?_; intro w9 HB9 HU9)
  refine bodyPost_ret (results_blk (cs := R) Tryz.results14 rfl (by rw [HOK.out.len]; exact agg_rs) HB9.out) rfl ?_
  exact ⟨rfl, hid (HX3.out.done HU9.out)⟩
set_option maxRecDepth 100000 in
set_option maxHeartbeats 1000000 in
theorem st21 (h : MM l E w) (a b c : Int) (ha : U64 a) (hb : U64 b) (hc : U64 c) : Calls Tryz.prog 14 #[.pointer (some ⟨l.m, 0, none⟩), .agg #[.int .u8 21, .int .u64 a, .int .u64 b, .int .u64 c]] w fun e w' => e = .returned (.agg (rsC (fillE E a (nbI b) (c != 0)).1 0 0).toArray) ∧ Hid (MD w l (fillE E a (nbI b) (c != 0)).2 w') := by
  have I0 := hid info_rs
  have HR := hid (fun (cd : Int) (wz : World) => refM cd wz)
  have HA := hid (fun wz => ansM 0 0 wz)
  obtain ⟨o, ho⟩ : ∃ o, w.heap.size = o := ⟨_, rfl⟩
  obtain ⟨p, hp⟩ : ∃ p, o + 1 = p := ⟨_, rfl⟩
  have HX : Hid (MP w l E o p [.int .u8 21, .int .u64 a, .int .u64 b, .int .u64 c] ((w.alloc (.cells #[.int .u8 21, .int .u64 a, .int .u64 b, .int .u64 c] 31)).alloc (.cells #[.int .u8 0, .int .u64 0, .int .u64 0, .string { data := #[] }, .int .i64 0, .int .i64 0, .int .i64 0, .int .i64 0, .int .i64 0, .int .i64 0, .int .i64 0, .int .i64 0, .int .i64 0, .int .i64 0, .int .i64 0, .int .i64 0, .int .i64 0, .int .i64 0, .int .i64 0, .int .i64 0, .int .u8 0, .int .i64 0, .int .i64 0, .int .i64 0, .int .i64 0, .int .i64 0, .int .i64 0, .int .i64 0, .int .i64 0, .int .i64 0, .int .i64 0, .int .i64 0, .int .i64 0, .int .i64 0, .int .i64 0] 46))) := hid (MP.start h ho hp)
  clear h
  obtain ⟨nb, hnb⟩ : ∃ n, nbI b = n := ⟨_, rfl⟩
  have HNb : Hid (∀ wz, Calls Tryz.prog 92 #[.int .u64 b] wz fun e w' => e = .returned (.int .i64 nb) ∧ w' = wz) := hid (fun wz => by
    have := numM b hb wz
    rw [hnb] at this
    exact this)
  have hrb : -9223372036854775808 ≤ nb ∧ nb < 9223372036854775808 := by rw [← hnb]; exact nbI_rng b
  rw [hnb]
  clear hnb
  obtain ⟨bo, hbo⟩ : ∃ bo, (c != 0) = bo := ⟨_, rfl⟩
  rw [hbo]
  have HK := hid (fun wz (hz : MM l E wz) => fillM hz a nb bo hrb)
  obtain ⟨R, hR⟩ : ∃ R, rsC (fillE E a nb bo).1 0 0 = R := ⟨_, rfl⟩
  have HOK : Hid (RsOk R) := hid (by rw [← hR]; exact RsOk.c _ _ _)
  rw [hR] at HK ⊢
  obtain ⟨E1, hE1⟩ : ∃ E1, (fillE E a nb bo).2 = E1 := ⟨_, rfl⟩
  rw [hE1] at HK ⊢
  clear hE1
  clear hR
  go_enter Tryz.func14, Tryz.ntmps14
  go_upto_region 1 with fail
  (try simp only [World.size_alloc, ho, hp])
  generalize hw2 : World.alloc (w.alloc _) _ = w2 at HX ⊢
  clear hw2 ho hp
  obtain ⟨o0, o1, o2, o3⟩ := HX.out.cells
  go_upto_region 89 with fail
  refine wp_region_heavy (fun wz => Blk wz o 31 [.int .u8 21, .int .u64 a, .int .u64 b, .int .u64 c]) 10 [0, 1, 2, 3, 4, 5, 6, 7, 8] [9] rfl (by kernel_rfl) (by kernel_rfl) (fun d _ _ _ _ h => by cases d <;> exact h) (HX.out.below (Drew.below ⟨1, rfl⟩ _)).op ?_
  apply Exists.intro
  refine ⟨?_, ?_⟩
  · intro W hW
    have d1 : ∀ x, (W x).cell? ⟨o, 1, none⟩ = some (.int .u64 a) := fun x => (hW x).cell 1
    have d2 : ∀ x, (W x).cell? ⟨o, 2, none⟩ = some (.int .u64 b) := fun x => (hW x).cell 2
    have d3 : ∀ x, (W x).cell? ⟨o, 3, none⟩ = some (.int .u64 c) := fun x => (hW x).cell 3
    clear hW
    simp only [List.take, opsAt, List.drop, List.cons_append, List.nil_append]
    repeat (go_big_quiet_step (first | (go_at_call 92; first | with_reducible exact Calls.class_same (HNb.out _))))
    exact rfl
  simp only [List.take, List.drop, opsAt, List.cons_append, List.nil_append, wpHv]
  have HD : Hid (MP w l E o p [.int .u8 21, .int .u64 a, .int .u64 b, .int .u64 c] w2.drew) := hid (HX.out.below (Drew.below ⟨1, rfl⟩ _))
  generalize w2.drew = wd at HD ⊢
  clear HX o0 o1 o2 o3
  go_wp2_with fail
  refine (HK.out _ HD.out.mx.md.mm).mono ?_
  rintro e w3 ⟨rfl, H3⟩
  have HX3 := hid (HD.out.step H3.out)
  clear H3 HD HK
  go_wp2_with fail
  refine ⟨HX3.out.op, ?_⟩
  simp only [QN]
  go_wp2_with (refine wpList_store_blk rfl 46 _ _ rfl p rfl R rfl HX3.out.mx.b (by rw [HOK.out.len]; rfl) (by rw [HOK.out.len]; exact I0.out) HOK.out.one ?_; intro w9 HB9 HU9)
  refine bodyPost_ret (results_blk (cs := R) Tryz.results14 rfl (by rw [HOK.out.len]; exact agg_rs) HB9.out) rfl ?_
  exact ⟨rfl, hid (HX3.out.done HU9.out)⟩
set_option maxRecDepth 100000 in
set_option maxHeartbeats 1000000 in
theorem st30 (h : MM l E w) (a b c : Int) (ha : U64 a) (hb : U64 b) (hc : U64 c) : Calls Tryz.prog 14 #[.pointer (some ⟨l.m, 0, none⟩), .agg #[.int .u8 30, .int .u64 a, .int .u64 b, .int .u64 c]] w fun e w' => e = .returned (.agg (rsC (shE E a (nbI b) (-1)).1 0 0).toArray) ∧ Hid (MD w l (shE E a (nbI b) (-1)).2 w') := by
  have I0 := hid info_rs
  have HR := hid (fun (cd : Int) (wz : World) => refM cd wz)
  have HA := hid (fun wz => ansM 0 0 wz)
  obtain ⟨o, ho⟩ : ∃ o, w.heap.size = o := ⟨_, rfl⟩
  obtain ⟨p, hp⟩ : ∃ p, o + 1 = p := ⟨_, rfl⟩
  have HX : Hid (MP w l E o p [.int .u8 30, .int .u64 a, .int .u64 b, .int .u64 c] ((w.alloc (.cells #[.int .u8 30, .int .u64 a, .int .u64 b, .int .u64 c] 31)).alloc (.cells #[.int .u8 0, .int .u64 0, .int .u64 0, .string { data := #[] }, .int .i64 0, .int .i64 0, .int .i64 0, .int .i64 0, .int .i64 0, .int .i64 0, .int .i64 0, .int .i64 0, .int .i64 0, .int .i64 0, .int .i64 0, .int .i64 0, .int .i64 0, .int .i64 0, .int .i64 0, .int .i64 0, .int .u8 0, .int .i64 0, .int .i64 0, .int .i64 0, .int .i64 0, .int .i64 0, .int .i64 0, .int .i64 0, .int .i64 0, .int .i64 0, .int .i64 0, .int .i64 0, .int .i64 0, .int .i64 0, .int .i64 0] 46))) := hid (MP.start h ho hp)
  clear h
  obtain ⟨nb, hnb⟩ : ∃ n, nbI b = n := ⟨_, rfl⟩
  have HNb : Hid (∀ wz, Calls Tryz.prog 92 #[.int .u64 b] wz fun e w' => e = .returned (.int .i64 nb) ∧ w' = wz) := hid (fun wz => by
    have := numM b hb wz
    rw [hnb] at this
    exact this)
  have hrb : -9223372036854775808 ≤ nb ∧ nb < 9223372036854775808 := by rw [← hnb]; exact nbI_rng b
  rw [hnb]
  clear hnb
  have HK := hid (fun wz (hz : MM l E wz) => shiftM hz a nb (-1) (.inr rfl))
  obtain ⟨R, hR⟩ : ∃ R, rsC (shE E a nb (-1)).1 0 0 = R := ⟨_, rfl⟩
  have HOK : Hid (RsOk R) := hid (by rw [← hR]; exact RsOk.c _ _ _)
  rw [hR] at HK ⊢
  obtain ⟨E1, hE1⟩ : ∃ E1, (shE E a nb (-1)).2 = E1 := ⟨_, rfl⟩
  rw [hE1] at HK ⊢
  clear hE1
  clear hR
  go_enter Tryz.func14, Tryz.ntmps14
  go_upto_region 1 with fail
  (try simp only [World.size_alloc, ho, hp])
  generalize hw2 : World.alloc (w.alloc _) _ = w2 at HX ⊢
  clear hw2 ho hp
  obtain ⟨o0, o1, o2, o3⟩ := HX.out.cells
  go_upto_region 115 with fail
  refine wp_region_heavy (fun wz => Blk wz o 31 [.int .u8 30, .int .u64 a, .int .u64 b, .int .u64 c]) 7 [0, 1, 2, 3, 4, 5] [6] rfl (by kernel_rfl) (by kernel_rfl) (fun d _ _ _ _ h => by cases d <;> exact h) (HX.out.below (Drew.below ⟨1, rfl⟩ _)).op ?_
  apply Exists.intro
  refine ⟨?_, ?_⟩
  · intro W hW
    have d1 : ∀ x, (W x).cell? ⟨o, 1, none⟩ = some (.int .u64 a) := fun x => (hW x).cell 1
    have d2 : ∀ x, (W x).cell? ⟨o, 2, none⟩ = some (.int .u64 b) := fun x => (hW x).cell 2
    have d3 : ∀ x, (W x).cell? ⟨o, 3, none⟩ = some (.int .u64 c) := fun x => (hW x).cell 3
    clear hW
    simp only [List.take, opsAt, List.drop, List.cons_append, List.nil_append]
    repeat (go_big_quiet_step (first | (go_at_call 92; first | with_reducible exact Calls.class_same (HNb.out _))))
    exact rfl
  simp only [List.take, List.drop, opsAt, List.cons_append, List.nil_append, wpHv]
  have HD : Hid (MP w l E o p [.int .u8 30, .int .u64 a, .int .u64 b, .int .u64 c] w2.drew) := hid (HX.out.below (Drew.below ⟨1, rfl⟩ _))
  generalize w2.drew = wd at HD ⊢
  clear HX o0 o1 o2 o3
  go_wp2_with fail
  refine (HK.out _ HD.out.mx.md.mm).mono ?_
  rintro e w3 ⟨rfl, H3⟩
  have HX3 := hid (HD.out.step H3.out)
  clear H3 HD HK
  go_wp2_with fail
  refine ⟨HX3.out.op, ?_⟩
  simp only [QN]
  go_wp2_with (refine wpList_store_blk rfl 46 _ _ rfl p rfl R rfl HX3.out.mx.b (by rw [HOK.out.len]; rfl) (by rw [HOK.out.len]; exact I0.out) HOK.out.one ?_; intro w9 HB9 HU9)
  refine bodyPost_ret (results_blk (cs := R) Tryz.results14 rfl (by rw [HOK.out.len]; exact agg_rs) HB9.out) rfl ?_
  exact ⟨rfl, hid (HX3.out.done HU9.out)⟩
set_option maxRecDepth 100000 in
set_option maxHeartbeats 1000000 in
theorem st34 (h : MM l E w) (a b c : Int) (ha : U64 a) (hb : U64 b) (hc : U64 c) : Calls Tryz.prog 14 #[.pointer (some ⟨l.m, 0, none⟩), .agg #[.int .u8 34, .int .u64 a, .int .u64 b, .int .u64 c]] w fun e w' => e = .returned (.agg (fbR E.T (nbI a) (nbI b)).toArray) ∧ Hid (MD w l E w') := by
  have I0 := hid info_rs
  have HR := hid (fun (cd : Int) (wz : World) => refM cd wz)
  have HA := hid (fun wz => ansM 0 0 wz)
  obtain ⟨o, ho⟩ : ∃ o, w.heap.size = o := ⟨_, rfl⟩
  obtain ⟨p, hp⟩ : ∃ p, o + 1 = p := ⟨_, rfl⟩
  have HX : Hid (MP w l E o p [.int .u8 34, .int .u64 a, .int .u64 b, .int .u64 c] ((w.alloc (.cells #[.int .u8 34, .int .u64 a, .int .u64 b, .int .u64 c] 31)).alloc (.cells #[.int .u8 0, .int .u64 0, .int .u64 0, .string { data := #[] }, .int .i64 0, .int .i64 0, .int .i64 0, .int .i64 0, .int .i64 0, .int .i64 0, .int .i64 0, .int .i64 0, .int .i64 0, .int .i64 0, .int .i64 0, .int .i64 0, .int .i64 0, .int .i64 0, .int .i64 0, .int .i64 0, .int .u8 0, .int .i64 0, .int .i64 0, .int .i64 0, .int .i64 0, .int .i64 0, .int .i64 0, .int .i64 0, .int .i64 0, .int .i64 0, .int .i64 0, .int .i64 0, .int .i64 0, .int .i64 0, .int .i64 0] 46))) := hid (MP.start h ho hp)
  clear h
  obtain ⟨na, hna⟩ : ∃ n, nbI a = n := ⟨_, rfl⟩
  have HNa : Hid (∀ wz, Calls Tryz.prog 92 #[.int .u64 a] wz fun e w' => e = .returned (.int .i64 na) ∧ w' = wz) := hid (fun wz => by
    have := numM a ha wz
    rw [hna] at this
    exact this)
  have hra : -9223372036854775808 ≤ na ∧ na < 9223372036854775808 := by rw [← hna]; exact nbI_rng a
  rw [hna]
  clear hna
  obtain ⟨nb, hnb⟩ : ∃ n, nbI b = n := ⟨_, rfl⟩
  have HNb : Hid (∀ wz, Calls Tryz.prog 92 #[.int .u64 b] wz fun e w' => e = .returned (.int .i64 nb) ∧ w' = wz) := hid (fun wz => by
    have := numM b hb wz
    rw [hnb] at this
    exact this)
  have hrb : -9223372036854775808 ≤ nb ∧ nb < 9223372036854775808 := by rw [← hnb]; exact nbI_rng b
  rw [hnb]
  clear hnb
  have HK := hid (fun wz (hz : MM l E wz) => freeRunM hz na nb)
  obtain ⟨R, hR⟩ : ∃ R, fbR E.T na nb = R := ⟨_, rfl⟩
  have HOK : Hid (RsOk R) := hid (by rw [← hR]; exact rk_fbR _ _ _)
  rw [hR] at HK ⊢
  clear hR
  go_enter Tryz.func14, Tryz.ntmps14
  go_upto_region 1 with fail
  (try simp only [World.size_alloc, ho, hp])
  generalize hw2 : World.alloc (w.alloc _) _ = w2 at HX ⊢
  clear hw2 ho hp
  obtain ⟨o0, o1, o2, o3⟩ := HX.out.cells
  go_upto_region 131 with fail
  refine wp_region_heavy (fun wz => Blk wz o 31 [.int .u8 34, .int .u64 a, .int .u64 b, .int .u64 c]) 8 [0, 1, 2, 3, 4, 5, 6] [7] rfl (by kernel_rfl) (by kernel_rfl) (fun d _ _ _ _ h => by cases d <;> exact h) (HX.out.below (Drew.below ⟨1, rfl⟩ _)).op ?_
  apply Exists.intro
  refine ⟨?_, ?_⟩
  · intro W hW
    have d1 : ∀ x, (W x).cell? ⟨o, 1, none⟩ = some (.int .u64 a) := fun x => (hW x).cell 1
    have d2 : ∀ x, (W x).cell? ⟨o, 2, none⟩ = some (.int .u64 b) := fun x => (hW x).cell 2
    have d3 : ∀ x, (W x).cell? ⟨o, 3, none⟩ = some (.int .u64 c) := fun x => (hW x).cell 3
    clear hW
    simp only [List.take, opsAt, List.drop, List.cons_append, List.nil_append]
    repeat (go_big_quiet_step (first | (go_at_call 92; first | with_reducible exact Calls.class_same (HNa.out _) | with_reducible exact Calls.class_same (HNb.out _))))
    exact rfl
  simp only [List.take, List.drop, opsAt, List.cons_append, List.nil_append, wpHv]
  have HD : Hid (MP w l E o p [.int .u8 34, .int .u64 a, .int .u64 b, .int .u64 c] w2.drew) := hid (HX.out.below (Drew.below ⟨1, rfl⟩ _))
  generalize w2.drew = wd at HD ⊢
  clear HX o0 o1 o2 o3
  go_wp2_with fail
  refine (HK.out _ HD.out.mx.md.mm).mono ?_
  rintro e w3 ⟨rfl, H3⟩
  have HX3 := hid (HD.out.step H3.out)
  clear H3 HD HK
  go_wp2_with fail
  refine ⟨HX3.out.op, ?_⟩
  simp only [QN]
  go_wp2_with (refine wpList_store_blk rfl 46 _ _ rfl p rfl R rfl HX3.out.mx.b (by rw [HOK.out.len]; rfl) (by rw [HOK.out.len]; exact I0.out) HOK.out.one ?_; intro w9 HB9 HU9)
  refine bodyPost_ret (results_blk (cs := R) Tryz.results14 rfl (by rw [HOK.out.len]; exact agg_rs) HB9.out) rfl ?_
  exact ⟨rfl, hid (HX3.out.done HU9.out)⟩
set_option maxRecDepth 100000 in
set_option maxHeartbeats 1000000 in
theorem st44 (h : MM l E w) (a b c : Int) (ha : U64 a) (hb : U64 b) (hc : U64 c) : Calls Tryz.prog 14 #[.pointer (some ⟨l.m, 0, none⟩), .agg #[.int .u8 44, .int .u64 a, .int .u64 b, .int .u64 c]] w fun e w' => e = .returned (.agg (ssR E.W a (nbI b) (nbI c)).toArray) ∧ Hid (MD w l E w') := by
  have I0 := hid info_rs
  have HR := hid (fun (cd : Int) (wz : World) => refM cd wz)
  have HA := hid (fun wz => ansM 0 0 wz)
  obtain ⟨o, ho⟩ : ∃ o, w.heap.size = o := ⟨_, rfl⟩
  obtain ⟨p, hp⟩ : ∃ p, o + 1 = p := ⟨_, rfl⟩
  have HX : Hid (MP w l E o p [.int .u8 44, .int .u64 a, .int .u64 b, .int .u64 c] ((w.alloc (.cells #[.int .u8 44, .int .u64 a, .int .u64 b, .int .u64 c] 31)).alloc (.cells #[.int .u8 0, .int .u64 0, .int .u64 0, .string { data := #[] }, .int .i64 0, .int .i64 0, .int .i64 0, .int .i64 0, .int .i64 0, .int .i64 0, .int .i64 0, .int .i64 0, .int .i64 0, .int .i64 0, .int .i64 0, .int .i64 0, .int .i64 0, .int .i64 0, .int .i64 0, .int .i64 0, .int .u8 0, .int .i64 0, .int .i64 0, .int .i64 0, .int .i64 0, .int .i64 0, .int .i64 0, .int .i64 0, .int .i64 0, .int .i64 0, .int .i64 0, .int .i64 0, .int .i64 0, .int .i64 0, .int .i64 0] 46))) := hid (MP.start h ho hp)
  clear h
  obtain ⟨nb, hnb⟩ : ∃ n, nbI b = n := ⟨_, rfl⟩
  have HNb : Hid (∀ wz, Calls Tryz.prog 92 #[.int .u64 b] wz fun e w' => e = .returned (.int .i64 nb) ∧ w' = wz) := hid (fun wz => by
    have := numM b hb wz
    rw [hnb] at this
    exact this)
  have hrb : -9223372036854775808 ≤ nb ∧ nb < 9223372036854775808 := by rw [← hnb]; exact nbI_rng b
  rw [hnb]
  clear hnb
  obtain ⟨nc, hnc⟩ : ∃ n, nbI c = n := ⟨_, rfl⟩
  have HNc : Hid (∀ wz, Calls Tryz.prog 92 #[.int .u64 c] wz fun e w' => e = .returned (.int .i64 nc) ∧ w' = wz) := hid (fun wz => by
    have := numM c hc wz
    rw [hnc] at this
    exact this)
  have hrc : -9223372036854775808 ≤ nc ∧ nc < 9223372036854775808 := by rw [← hnc]; exact nbI_rng c
  rw [hnc]
  clear hnc
  have HK := hid (fun wz (hz : MM l E wz) => scanSomeM hz a nb nc hrc.2)
  obtain ⟨R, hR⟩ : ∃ R, ssR E.W a nb nc = R := ⟨_, rfl⟩
  have HOK : Hid (RsOk R) := hid (by rw [← hR]; exact rk_ssR _ _ _ _)
  rw [hR] at HK ⊢
  clear hR
  go_enter Tryz.func14, Tryz.ntmps14
  go_upto_region 1 with fail
  (try simp only [World.size_alloc, ho, hp])
  generalize hw2 : World.alloc (w.alloc _) _ = w2 at HX ⊢
  clear hw2 ho hp
  obtain ⟨o0, o1, o2, o3⟩ := HX.out.cells
  go_upto_region 67 with fail
  refine wp_region_heavy (fun wz => Blk wz o 31 [.int .u8 44, .int .u64 a, .int .u64 b, .int .u64 c]) 10 [0, 1, 2, 3, 4, 5, 6, 7, 8] [9] rfl (by kernel_rfl) (by kernel_rfl) (fun d _ _ _ _ h => by cases d <;> exact h) (HX.out.below (Drew.below ⟨1, rfl⟩ _)).op ?_
  apply Exists.intro
  refine ⟨?_, ?_⟩
  · intro W hW
    have d1 : ∀ x, (W x).cell? ⟨o, 1, none⟩ = some (.int .u64 a) := fun x => (hW x).cell 1
    have d2 : ∀ x, (W x).cell? ⟨o, 2, none⟩ = some (.int .u64 b) := fun x => (hW x).cell 2
    have d3 : ∀ x, (W x).cell? ⟨o, 3, none⟩ = some (.int .u64 c) := fun x => (hW x).cell 3
    clear hW
    simp only [List.take, opsAt, List.drop, List.cons_append, List.nil_append]
    repeat (go_big_quiet_step (first | (go_at_call 92; first | with_reducible exact Calls.class_same (HNb.out _) | with_reducible exact Calls.class_same (HNc.out _))))
    exact rfl
  simp only [List.take, List.drop, opsAt, List.cons_append, List.nil_append, wpHv]
  have HD : Hid (MP w l E o p [.int .u8 44, .int .u64 a, .int .u64 b, .int .u64 c] w2.drew) := hid (HX.out.below (Drew.below ⟨1, rfl⟩ _))
  generalize w2.drew = wd at HD ⊢
  clear HX o0 o1 o2 o3
  go_wp2_with fail
  refine (HK.out _ HD.out.mx.md.mm).mono ?_
  rintro e w3 ⟨rfl, H3⟩
  have HX3 := hid (HD.out.step H3.out)
  clear H3 HD HK
  go_wp2_with fail
  refine ⟨HX3.out.op, ?_⟩
  simp only [QN]
  go_wp2_with (refine wpList_store_blk rfl 46 _ _ rfl p rfl R rfl HX3.out.mx.b (by rw [HOK.out.len]; rfl) (by rw [HOK.out.len]; exact I0.out) HOK.out.one ?_; intro w9 HB9 HU9)
  refine bodyPost_ret (results_blk (cs := R) Tryz.results14 rfl (by rw [HOK.out.len]; exact agg_rs) HB9.out) rfl ?_
  exact ⟨rfl, hid (HX3.out.done HU9.out)⟩
set_option maxRecDepth 100000 in
set_option maxHeartbeats 1000000 in
theorem st50 (h : MM l E w) (a b c : Int) (ha : U64 a) (hb : U64 b) (hc : U64 c) : Calls Tryz.prog 14 #[.pointer (some ⟨l.m, 0, none⟩), .agg #[.int .u8 50, .int .u64 a, .int .u64 b, .int .u64 c]] w fun e w' => e = .returned (.agg (clR E.C (nbI a) (nbI b)).toArray) ∧ Hid (MD w l E w') := by
  have I0 := hid info_rs
  have HR := hid (fun (cd : Int) (wz : World) => refM cd wz)
  have HA := hid (fun wz => ansM 0 0 wz)
  obtain ⟨o, ho⟩ : ∃ o, w.heap.size = o := ⟨_, rfl⟩
  obtain ⟨p, hp⟩ : ∃ p, o + 1 = p := ⟨_, rfl⟩
  have HX : Hid (MP w l E o p [.int .u8 50, .int .u64 a, .int .u64 b, .int .u64 c] ((w.alloc (.cells #[.int .u8 50, .int .u64 a, .int .u64 b, .int .u64 c] 31)).alloc (.cells #[.int .u8 0, .int .u64 0, .int .u64 0, .string { data := #[] }, .int .i64 0, .int .i64 0, .int .i64 0, .int .i64 0, .int .i64 0, .int .i64 0, .int .i64 0, .int .i64 0, .int .i64 0, .int .i64 0, .int .i64 0, .int .i64 0, .int .i64 0, .int .i64 0, .int .i64 0, .int .i64 0, .int .u8 0, .int .i64 0, .int .i64 0, .int .i64 0, .int .i64 0, .int .i64 0, .int .i64 0, .int .i64 0, .int .i64 0, .int .i64 0, .int .i64 0, .int .i64 0, .int .i64 0, .int .i64 0, .int .i64 0] 46))) := hid (MP.start h ho hp)
  clear h
  obtain ⟨na, hna⟩ : ∃ n, nbI a = n := ⟨_, rfl⟩
  have HNa : Hid (∀ wz, Calls Tryz.prog 92 #[.int .u64 a] wz fun e w' => e = .returned (.int .i64 na) ∧ w' = wz) := hid (fun wz => by
    have := numM a ha wz
    rw [hna] at this
    exact this)
  have hra : -9223372036854775808 ≤ na ∧ na < 9223372036854775808 := by rw [← hna]; exact nbI_rng a
  rw [hna]
  clear hna
  obtain ⟨nb, hnb⟩ : ∃ n, nbI b = n := ⟨_, rfl⟩
  have HNb : Hid (∀ wz, Calls Tryz.prog 92 #[.int .u64 b] wz fun e w' => e = .returned (.int .i64 nb) ∧ w' = wz) := hid (fun wz => by
    have := numM b hb wz
    rw [hnb] at this
    exact this)
  have hrb : -9223372036854775808 ≤ nb ∧ nb < 9223372036854775808 := by rw [← hnb]; exact nbI_rng b
  rw [hnb]
  clear hnb
  have HK := hid (fun wz (hz : MM l E wz) => clM' hz na nb)
  obtain ⟨R, hR⟩ : ∃ R, clR E.C na nb = R := ⟨_, rfl⟩
  have HOK : Hid (RsOk R) := hid (by rw [← hR]; exact rk_clR _ _ _)
  rw [hR] at HK ⊢
  clear hR
  go_enter Tryz.func14, Tryz.ntmps14
  go_upto_region 1 with fail
  (try simp only [World.size_alloc, ho, hp])
  generalize hw2 : World.alloc (w.alloc _) _ = w2 at HX ⊢
  clear hw2 ho hp
  obtain ⟨o0, o1, o2, o3⟩ := HX.out.cells
  go_upto_region 135 with fail
  refine wp_region_heavy (fun wz => Blk wz o 31 [.int .u8 50, .int .u64 a, .int .u64 b, .int .u64 c]) 8 [0, 1, 2, 3, 4, 5, 6] [7] rfl (by kernel_rfl) (by kernel_rfl) (fun d _ _ _ _ h => by cases d <;> exact h) (HX.out.below (Drew.below ⟨1, rfl⟩ _)).op ?_
  apply Exists.intro
  refine ⟨?_, ?_⟩
  · intro W hW
    have d1 : ∀ x, (W x).cell? ⟨o, 1, none⟩ = some (.int .u64 a) := fun x => (hW x).cell 1
    have d2 : ∀ x, (W x).cell? ⟨o, 2, none⟩ = some (.int .u64 b) := fun x => (hW x).cell 2
    have d3 : ∀ x, (W x).cell? ⟨o, 3, none⟩ = some (.int .u64 c) := fun x => (hW x).cell 3
    clear hW
    simp only [List.take, opsAt, List.drop, List.cons_append, List.nil_append]
    repeat (go_big_quiet_step (first | (go_at_call 92; first | with_reducible exact Calls.class_same (HNa.out _) | with_reducible exact Calls.class_same (HNb.out _))))
    exact rfl
  simp only [List.take, List.drop, opsAt, List.cons_append, List.nil_append, wpHv]
  have HD : Hid (MP w l E o p [.int .u8 50, .int .u64 a, .int .u64 b, .int .u64 c] w2.drew) := hid (HX.out.below (Drew.below ⟨1, rfl⟩ _))
  generalize w2.drew = wd at HD ⊢
  clear HX o0 o1 o2 o3
  go_wp2_with fail
  refine (HK.out _ HD.out.mx.md.mm).mono ?_
  rintro e w3 ⟨rfl, H3⟩
  have HX3 := hid (HD.out.step H3.out)
  clear H3 HD HK
  go_wp2_with fail
  refine ⟨HX3.out.op, ?_⟩
  simp only [QN]
  go_wp2_with (refine wpList_store_blk rfl 46 _ _ rfl p rfl R rfl HX3.out.mx.b (by rw [HOK.out.len]; rfl) (by rw [HOK.out.len]; exact I0.out) HOK.out.one ?_; intro w9 HB9 HU9)
  refine bodyPost_ret (results_blk (cs := R) Tryz.results14 rfl (by rw [HOK.out.len]; exact agg_rs) HB9.out) rfl ?_
  exact ⟨rfl, hid (HX3.out.done HU9.out)⟩
end
end Go.Proofs.Qxb6500887aGreat
