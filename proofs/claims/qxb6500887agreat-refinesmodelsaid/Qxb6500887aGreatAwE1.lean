/- Steps of the model that call on, drawn (written by tools/mk_awc.py). -/
import Derived.Test.Qxb6500887aGreatAwC
import Derived.Deep.DeepCutAuto
namespace Go.Proofs.Qxb6500887aGreat
open Go.RowKit
set_option linter.unusedSimpArgs false
set_option linter.unusedVariables false
section
variable {l : ML} {E E' : ES} {w w' w0 w3 w4 : World} {o p r : Nat} {oc rs : List Value}
set_option maxRecDepth 100000 in
set_option maxHeartbeats 1000000 in
theorem st2 (h : MM l E w) (a b c : Int) (ha : U64 a) (hb : U64 b) (hc : U64 c) : Calls Tryz.prog 14 #[.pointer (some ⟨l.m, 0, none⟩), .agg #[.int .u8 2, .int .u64 a, .int .u64 b, .int .u64 c]] w fun e w' => e = .returned (.agg (rsC (zeroE E a (nbI b)).1 0 0).toArray) ∧ Hid (MD w l (zeroE E a (nbI b)).2 w') := by
  have I0 := hid info_rs
  have HR := hid (fun (cd : Int) (wz : World) => refM cd wz)
  have HA := hid (fun wz => ansM 0 0 wz)
  obtain ⟨o, ho⟩ : ∃ o, w.heap.size = o := ⟨_, rfl⟩
  obtain ⟨p, hp⟩ : ∃ p, o + 1 = p := ⟨_, rfl⟩
  have HX : Hid (MP w l E o p [.int .u8 2, .int .u64 a, .int .u64 b, .int .u64 c] ((w.alloc (.cells #[.int .u8 2, .int .u64 a, .int .u64 b, .int .u64 c] 31)).alloc (.cells #[.int .u8 0, .int .u64 0, .int .u64 0, .string { data := #[] }, .int .i64 0, .int .i64 0, .int .i64 0, .int .i64 0, .int .i64 0, .int .i64 0, .int .i64 0, .int .i64 0, .int .i64 0, .int .i64 0, .int .i64 0, .int .i64 0, .int .i64 0, .int .i64 0, .int .i64 0, .int .i64 0, .int .u8 0, .int .i64 0, .int .i64 0, .int .i64 0, .int .i64 0, .int .i64 0, .int .i64 0, .int .i64 0, .int .i64 0, .int .i64 0, .int .i64 0, .int .i64 0, .int .i64 0, .int .i64 0, .int .i64 0] 46))) := hid (MP.start h ho hp)
  clear h
  obtain ⟨nb, hnb⟩ : ∃ n, nbI b = n := ⟨_, rfl⟩
  have HNb : Hid (∀ wz, Calls Tryz.prog 92 #[.int .u64 b] wz fun e w' => e = .returned (.int .i64 nb) ∧ w' = wz) := hid (fun wz => by
    have := numM b hb wz
    rw [hnb] at this
    exact this)
  have hrb : -9223372036854775808 ≤ nb ∧ nb < 9223372036854775808 := by rw [← hnb]; exact nbI_rng b
  rw [hnb]
  clear hnb
  have HK := hid (fun wz (hz : MM l E wz) => zeroM hz a nb hrb)
  obtain ⟨R, hR⟩ : ∃ R, rsC (zeroE E a nb).1 0 0 = R := ⟨_, rfl⟩
  have HOK : Hid (RsOk R) := hid (by rw [← hR]; exact RsOk.c _ _ _)
  rw [hR] at HK ⊢
  obtain ⟨E1, hE1⟩ : ∃ E1, (zeroE E a nb).2 = E1 := ⟨_, rfl⟩
  rw [hE1] at HK ⊢
  clear hE1
  clear hR
  go_enter Tryz.func14, Tryz.ntmps14
  go_upto_region 1 with fail
  (try simp only [World.size_alloc, ho, hp])
  generalize hw2 : World.alloc (w.alloc _) _ = w2 at HX ⊢
  clear hw2 ho hp
  obtain ⟨o0, o1, o2, o3⟩ := HX.out.cells
  go_upto_region 15 with fail
  refine wp_region_heavy (fun wz => Blk wz o 31 [.int .u8 2, .int .u64 a, .int .u64 b, .int .u64 c]) 7 [0, 1, 2, 3, 4, 5] [6] rfl (by kernel_rfl) (by kernel_rfl) (fun d _ _ _ _ h => by cases d <;> exact h) (HX.out.below (Drew.below ⟨1, rfl⟩ _)).op ?_
  apply Exists.intro
  refine ⟨?_, ?_⟩
  · intro W hW
    have d1 : ∀ x, (W x).cell? ⟨o, 1, none⟩ = some (.int .u64 a) := fun x => (hW x).cell 1
    have d2 : ∀ x, (W x).cell? ⟨o, 2, none⟩ = some (.int .u64 b) := fun x => (hW x).cell 2
    have d3 : ∀ x, (W x).cell? ⟨o, 3, none⟩ = some (.int .u64 c) := fun x => (hW x).cell 3
    clear hW
    simp only [List.take, opsAt, List.drop, List.cons_append, List.nil_append]
    repeat (go_big_quiet_step (first | (go_at_call 92; first | with_reducible exact Calls.class_same (HNb.out _))))
    exact rfl
  simp only [List.take, List.drop, opsAt, List.cons_append, List.nil_append, wpHv]
  have HD : Hid (MP w l E o p [.int .u8 2, .int .u64 a, .int .u64 b, .int .u64 c] w2.drew) := hid (HX.out.below (Drew.below ⟨1, rfl⟩ _))
  generalize w2.drew = wd at HD ⊢
  clear HX o0 o1 o2 o3
  go_wp2_with fail
  refine (HK.out _ HD.out.mx.md.mm).mono ?_
  rintro e w3 ⟨rfl, H3⟩
  have HX3 := hid (HD.out.step H3.out)
  clear H3 HD HK
  go_wp2_with fail
  refine ⟨HX3.out.op, ?_⟩
  simp only [QN]
  go_wp2_with (refine wpList_store_blk rfl 46 _ _ rfl p rfl R rfl HX3.out.mx.b (by rw [HOK.out.len]; rfl) (by rw [HOK.out.len]; exact I0.out) HOK.out.one ?_; intro w9 HB9 HU9)
  refine bodyPost_ret (results_blk (cs := R) Tryz.results14 rfl (by rw [HOK.out.len]; exact agg_rs) HB9.out) rfl ?_
  exact ⟨rfl, hid (HX3.out.done HU9.out)⟩
set_option maxRecDepth 100000 in
set_option maxHeartbeats 1000000 in
theorem st6 (h : MM l E w) (a b c : Int) (ha : U64 a) (hb : U64 b) (hc : U64 c) : Calls Tryz.prog 14 #[.pointer (some ⟨l.m, 0, none⟩), .agg #[.int .u8 6, .int .u64 a, .int .u64 b, .int .u64 c]] w fun e w' => e = .returned (.agg (rsC (formatE E a (nbI b) (nbI c)).1 0 0).toArray) ∧ Hid (MD w l (formatE E a (nbI b) (nbI c)).2 w') := by
  have I0 := hid info_rs
  have HR := hid (fun (cd : Int) (wz : World) => refM cd wz)
  have HA := hid (fun wz => ansM 0 0 wz)
  obtain ⟨o, ho⟩ : ∃ o, w.heap.size = o := ⟨_, rfl⟩
  obtain ⟨p, hp⟩ : ∃ p, o + 1 = p := ⟨_, rfl⟩
  have HX : Hid (MP w l E o p [.int .u8 6, .int .u64 a, .int .u64 b, .int .u64 c] ((w.alloc (.cells #[.int .u8 6, .int .u64 a, .int .u64 b, .int .u64 c] 31)).alloc (.cells #[.int .u8 0, .int .u64 0, .int .u64 0, .string { data := #[] }, .int .i64 0, .int .i64 0, .int .i64 0, .int .i64 0, .int .i64 0, .int .i64 0, .int .i64 0, .int .i64 0, .int .i64 0, .int .i64 0, .int .i64 0, .int .i64 0, .int .i64 0, .int .i64 0, .int .i64 0, .int .i64 0, .int .u8 0, .int .i64 0, .int .i64 0, .int .i64 0, .int .i64 0, .int .i64 0, .int .i64 0, .int .i64 0, .int .i64 0, .int .i64 0, .int .i64 0, .int .i64 0, .int .i64 0, .int .i64 0, .int .i64 0] 46))) := hid (MP.start h ho hp)
  clear h
  obtain ⟨nb, hnb⟩ : ∃ n, nbI b = n := ⟨_, rfl⟩
  have HNb : Hid (∀ wz, Calls Tryz.prog 92 #[.int .u64 b] wz fun e w' => e = .returned (.int .i64 nb) ∧ w' = wz) := hid (fun wz => by
    have := numM b hb wz
    rw [hnb] at this
    exact this)
  have hrb : -9223372036854775808 ≤ nb ∧ nb < 9223372036854775808 := by rw [← hnb]; exact nbI_rng b
  rw [hnb]
  clear hnb
  obtain ⟨nc, hnc⟩ : ∃ n, nbI c = n := ⟨_, rfl⟩
  have HNc : Hid (∀ wz, Calls Tryz.prog 92 #[.int .u64 c] wz fun e w' => e = .returned (.int .i64 nc) ∧ w' = wz) := hid (fun wz => by
    have := numM c hc wz
    rw [hnc] at this
    exact this)
  have hrc : -9223372036854775808 ≤ nc ∧ nc < 9223372036854775808 := by rw [← hnc]; exact nbI_rng c
  rw [hnc]
  clear hnc
  have HK := hid (fun wz (hz : MM l E wz) => formatM hz a nb nc)
  obtain ⟨R, hR⟩ : ∃ R, rsC (formatE E a nb nc).1 0 0 = R := ⟨_, rfl⟩
  have HOK : Hid (RsOk R) := hid (by rw [← hR]; exact RsOk.c _ _ _)
  rw [hR] at HK ⊢
  obtain ⟨E1, hE1⟩ : ∃ E1, (formatE E a nb nc).2 = E1 := ⟨_, rfl⟩
  rw [hE1] at HK ⊢
  clear hE1
  clear hR
  go_enter Tryz.func14, Tryz.ntmps14
  go_upto_region 1 with fail
  (try simp only [World.size_alloc, ho, hp])
  generalize hw2 : World.alloc (w.alloc _) _ = w2 at HX ⊢
  clear hw2 ho hp
  obtain ⟨o0, o1, o2, o3⟩ := HX.out.cells
  go_upto_region 45 with fail
  refine wp_region_heavy (fun wz => Blk wz o 31 [.int .u8 6, .int .u64 a, .int .u64 b, .int .u64 c]) 10 [0, 1, 2, 3, 4, 5, 6, 7, 8] [9] rfl (by kernel_rfl) (by kernel_rfl) (fun d _ _ _ _ h => by cases d <;> exact h) (HX.out.below (Drew.below ⟨1, rfl⟩ _)).op ?_
  apply Exists.intro
  refine ⟨?_, ?_⟩
  · intro W hW
    have d1 : ∀ x, (W x).cell? ⟨o, 1, none⟩ = some (.int .u64 a) := fun x => (hW x).cell 1
    have d2 : ∀ x, (W x).cell? ⟨o, 2, none⟩ = some (.int .u64 b) := fun x => (hW x).cell 2
    have d3 : ∀ x, (W x).cell? ⟨o, 3, none⟩ = some (.int .u64 c) := fun x => (hW x).cell 3
    clear hW
    simp only [List.take, opsAt, List.drop, List.cons_append, List.nil_append]
    repeat (go_big_quiet_step (first | (go_at_call 92; first | with_reducible exact Calls.class_same (HNb.out _) | with_reducible exact Calls.class_same (HNc.out _))))
    exact rfl
  simp only [List.take, List.drop, opsAt, List.cons_append, List.nil_append, wpHv]
  have HD : Hid (MP w l E o p [.int .u8 6, .int .u64 a, .int .u64 b, .int .u64 c] w2.drew) := hid (HX.out.below (Drew.below ⟨1, rfl⟩ _))
  generalize w2.drew = wd at HD ⊢
  clear HX o0 o1 o2 o3
  go_wp2_with fail
  refine (HK.out _ HD.out.mx.md.mm).mono ?_
  rintro e w3 ⟨rfl, H3⟩
  have HX3 := hid (HD.out.step H3.out)
  clear H3 HD HK
  go_wp2_with fail
  refine ⟨HX3.out.op, ?_⟩
  simp only [QN]
  go_wp2_with (refine wpList_store_blk rfl 46 _ _ rfl p rfl R rfl HX3.out.mx.b (by rw [HOK.out.len]; rfl) (by rw [HOK.out.len]; exact I0.out) HOK.out.one ?_; intro w9 HB9 HU9)
  refine bodyPost_ret (results_blk (cs := R) Tryz.results14 rfl (by rw [HOK.out.len]; exact agg_rs) HB9.out) rfl ?_
  exact ⟨rfl, hid (HX3.out.done HU9.out)⟩
set_option maxRecDepth 100000 in
set_option maxHeartbeats 1000000 in
theorem st29 (h : MM l E w) (a b c : Int) (ha : U64 a) (hb : U64 b) (hc : U64 c) : Calls Tryz.prog 14 #[.pointer (some ⟨l.m, 0, none⟩), .agg #[.int .u8 29, .int .u64 a, .int .u64 b, .int .u64 c]] w fun e w' => e = .returned (.agg (rsC (shE E a (nbI b) 1).1 0 0).toArray) ∧ Hid (MD w l (shE E a (nbI b) 1).2 w') := by
  have I0 := hid info_rs
  have HR := hid (fun (cd : Int) (wz : World) => refM cd wz)
  have HA := hid (fun wz => ansM 0 0 wz)
  obtain ⟨o, ho⟩ : ∃ o, w.heap.size = o := ⟨_, rfl⟩
  obtain ⟨p, hp⟩ : ∃ p, o + 1 = p := ⟨_, rfl⟩
  have HX : Hid (MP w l E o p [.int .u8 29, .int .u64 a, .int .u64 b, .int .u64 c] ((w.alloc (.cells #[.int .u8 29, .int .u64 a, .int .u64 b, .int .u64 c] 31)).alloc (.cells #[.int .u8 0, .int .u64 0, .int .u64 0, .string { data := #[] }, .int .i64 0, .int .i64 0, .int .i64 0, .int .i64 0, .int .i64 0, .int .i64 0, .int .i64 0, .int .i64 0, .int .i64 0, .int .i64 0, .int .i64 0, .int .i64 0, .int .i64 0, .int .i64 0, .int .i64 0, .int .i64 0, .int .u8 0, .int .i64 0, .int .i64 0, .int .i64 0, .int .i64 0, .int .i64 0, .int .i64 0, .int .i64 0, .int .i64 0, .int .i64 0, .int .i64 0, .int .i64 0, .int .i64 0, .int .i64 0, .int .i64 0] 46))) := hid (MP.start h ho hp)
  clear h
  obtain ⟨nb, hnb⟩ : ∃ n, nbI b = n := ⟨_, rfl⟩
  have HNb : Hid (∀ wz, Calls Tryz.prog 92 #[.int .u64 b] wz fun e w' => e = .returned (.int .i64 nb) ∧ w' = wz) := hid (fun wz => by
    have := numM b hb wz
    rw [hnb] at this
    exact this)
  have hrb : -9223372036854775808 ≤ nb ∧ nb < 9223372036854775808 := by rw [← hnb]; exact nbI_rng b
  rw [hnb]
  clear hnb
  have HK := hid (fun wz (hz : MM l E wz) => shiftM hz a nb 1 (.inl rfl))
  obtain ⟨R, hR⟩ : ∃ R, rsC (shE E a nb 1).1 0 0 = R := ⟨_, rfl⟩
  have HOK : Hid (RsOk R) := hid (by rw [← hR]; exact RsOk.c _ _ _)
  rw [hR] at HK ⊢
  obtain ⟨E1, hE1⟩ : ∃ E1, (shE E a nb 1).2 = E1 := ⟨_, rfl⟩
  rw [hE1] at HK ⊢
  clear hE1
  clear hR
  go_enter Tryz.func14, Tryz.ntmps14
  go_upto_region 1 with fail
  (try simp only [World.size_alloc, ho, hp])
  generalize hw2 : World.alloc (w.alloc _) _ = w2 at HX ⊢
  clear hw2 ho hp
  obtain ⟨o0, o1, o2, o3⟩ := HX.out.cells
  go_upto_region 113 with fail
  refine wp_region_heavy (fun wz => Blk wz o 31 [.int .u8 29, .int .u64 a, .int .u64 b, .int .u64 c]) 7 [0, 1, 2, 3, 4, 5] [6] rfl (by kernel_rfl) (by kernel_rfl) (fun d _ _ _ _ h => by cases d <;> exact h) (HX.out.below (Drew.below ⟨1, rfl⟩ _)).op ?_
  apply Exists.intro
  refine ⟨?_, ?_⟩
  · intro W hW
    have d1 : ∀ x, (W x).cell? ⟨o, 1, none⟩ = some (.int .u64 a) := fun x => (hW x).cell 1
    have d2 : ∀ x, (W x).cell? ⟨o, 2, none⟩ = some (.int .u64 b) := fun x => (hW x).cell 2
    have d3 : ∀ x, (W x).cell? ⟨o, 3, none⟩ = some (.int .u64 c) := fun x => (hW x).cell 3
    clear hW
    simp only [List.take, opsAt, List.drop, List.cons_append, List.nil_append]
    repeat (go_big_quiet_step (first | (go_at_call 92; first | with_reducible exact Calls.class_same (HNb.out _))))
    exact rfl
  simp only [List.take, List.drop, opsAt, List.cons_append, List.nil_append, wpHv]
  have HD : Hid (MP w l E o p [.int .u8 29, .int .u64 a, .int .u64 b, .int .u64 c] w2.drew) := hid (HX.out.below (Drew.below ⟨1, rfl⟩ _))
  generalize w2.drew = wd at HD ⊢
  clear HX o0 o1 o2 o3
  go_wp2_with fail
  refine (HK.out _ HD.out.mx.md.mm).mono ?_
  rintro e w3 ⟨rfl, H3⟩
  have HX3 := hid (HD.out.step H3.out)
  clear H3 HD HK
  go_wp2_with fail
  refine ⟨HX3.out.op, ?_⟩
  simp only [QN]
  go_wp2_with (refine wpList_store_blk rfl 46 _ _ rfl p rfl R rfl HX3.out.mx.b (by rw [HOK.out.len]; rfl) (by rw [HOK.out.len]; exact I0.out) HOK.out.one ?_; intro w9 HB9 HU9)
  refine bodyPost_ret (results_blk (cs := R) Tryz.results14 rfl (by rw [HOK.out.len]; exact agg_rs) HB9.out) rfl ?_
  exact ⟨rfl, hid (HX3.out.done HU9.out)⟩
set_option maxRecDepth 100000 in
set_option maxHeartbeats 1000000 in
theorem st33 (h : MM l E w) (a b c : Int) (ha : U64 a) (hb : U64 b) (hc : U64 c) : Calls Tryz.prog 14 #[.pointer (some ⟨l.m, 0, none⟩), .agg #[.int .u8 33, .int .u64 a, .int .u64 b, .int .u64 c]] w fun e w' => e = .returned (.agg (fhR E.T (nbI a) (nbI b) 1).toArray) ∧ Hid (MD w l E w') := by
  have I0 := hid info_rs
  have HR := hid (fun (cd : Int) (wz : World) => refM cd wz)
  have HA := hid (fun wz => ansM 0 0 wz)
  obtain ⟨o, ho⟩ : ∃ o, w.heap.size = o := ⟨_, rfl⟩
  obtain ⟨p, hp⟩ : ∃ p, o + 1 = p := ⟨_, rfl⟩
  have HX : Hid (MP w l E o p [.int .u8 33, .int .u64 a, .int .u64 b, .int .u64 c] ((w.alloc (.cells #[.int .u8 33, .int .u64 a, .int .u64 b, .int .u64 c] 31)).alloc (.cells #[.int .u8 0, .int .u64 0, .int .u64 0, .string { data := #[] }, .int .i64 0, .int .i64 0, .int .i64 0, .int .i64 0, .int .i64 0, .int .i64 0, .int .i64 0, .int .i64 0, .int .i64 0, .int .i64 0, .int .i64 0, .int .i64 0, .int .i64 0, .int .i64 0, .int .i64 0, .int .i64 0, .int .u8 0, .int .i64 0, .int .i64 0, .int .i64 0, .int .i64 0, .int .i64 0, .int .i64 0, .int .i64 0, .int .i64 0, .int .i64 0, .int .i64 0, .int .i64 0, .int .i64 0, .int .i64 0, .int .i64 0] 46))) := hid (MP.start h ho hp)
  clear h
  obtain ⟨na, hna⟩ : ∃ n, nbI a = n := ⟨_, rfl⟩
  have HNa : Hid (∀ wz, Calls Tryz.prog 92 #[.int .u64 a] wz fun e w' => e = .returned (.int .i64 na) ∧ w' = wz) := hid (fun wz => by
    have := numM a ha wz
    rw [hna] at this
    exact this)
  have hra : -9223372036854775808 ≤ na ∧ na < 9223372036854775808 := by rw [← hna]; exact nbI_rng a
  rw [hna]
  clear hna
  obtain ⟨nb, hnb⟩ : ∃ n, nbI b = n := ⟨_, rfl⟩
  have HNb : Hid (∀ wz, Calls Tryz.prog 92 #[.int .u64 b] wz fun e w' => e = .returned (.int .i64 nb) ∧ w' = wz) := hid (fun wz => by
    have := numM b hb wz
    rw [hnb] at this
    exact this)
  have hrb : -9223372036854775808 ≤ nb ∧ nb < 9223372036854775808 := by rw [← hnb]; exact nbI_rng b
  rw [hnb]
  clear hnb
  have HK := hid (fun wz (hz : MM l E wz) => fitM hz na nb 1)
  obtain ⟨R, hR⟩ : ∃ R, fhR E.T na nb 1 = R := ⟨_, rfl⟩
  have HOK : Hid (RsOk R) := hid (by rw [← hR]; exact rk_fhR _ _ _ _)
  rw [hR] at HK ⊢
  clear hR
  go_enter Tryz.func14, Tryz.ntmps14
  go_upto_region 1 with fail
  (try simp only [World.size_alloc, ho, hp])
  generalize hw2 : World.alloc (w.alloc _) _ = w2 at HX ⊢
  clear hw2 ho hp
  obtain ⟨o0, o1, o2, o3⟩ := HX.out.cells
  go_upto_region 125 with fail
  refine wp_region_heavy (fun wz => Blk wz o 31 [.int .u8 33, .int .u64 a, .int .u64 b, .int .u64 c]) 8 [0, 1, 2, 3, 4, 5, 6] [7] rfl (by kernel_rfl) (by kernel_rfl) (fun d _ _ _ _ h => by cases d <;> exact h) (HX.out.below (Drew.below ⟨1, rfl⟩ _)).op ?_
  apply Exists.intro
  refine ⟨?_, ?_⟩
  · intro W hW
    have d1 : ∀ x, (W x).cell? ⟨o, 1, none⟩ = some (.int .u64 a) := fun x => (hW x).cell 1
    have d2 : ∀ x, (W x).cell? ⟨o, 2, none⟩ = some (.int .u64 b) := fun x => (hW x).cell 2
    have d3 : ∀ x, (W x).cell? ⟨o, 3, none⟩ = some (.int .u64 c) := fun x => (hW x).cell 3
    clear hW
    simp only [List.take, opsAt, List.drop, List.cons_append, List.nil_append]
    repeat (go_big_quiet_step (first | (go_at_call 92; first | with_reducible exact Calls.class_same (HNa.out _) | with_reducible exact Calls.class_same (HNb.out _))))
    exact rfl
  simp only [List.take, List.drop, opsAt, List.cons_append, List.nil_append, wpHv]
  have HD : Hid (MP w l E o p [.int .u8 33, .int .u64 a, .int .u64 b, .int .u64 c] w2.drew) := hid (HX.out.below (Drew.below ⟨1, rfl⟩ _))
  generalize w2.drew = wd at HD ⊢
  clear HX o0 o1 o2 o3
  go_wp2_with fail
  refine (HK.out _ HD.out.mx.md.mm).mono ?_
  rintro e w3 ⟨rfl, H3⟩
  have HX3 := hid (HD.out.step H3.out)
  clear H3 HD HK
  go_wp2_with fail
  refine ⟨HX3.out.op, ?_⟩
  simp only [QN]
  go_wp2_with (refine wpList_store_blk rfl 46 _ _ rfl p rfl R rfl HX3.out.mx.b (by rw [HOK.out.len]; rfl) (by rw [HOK.out.len]; exact I0.out) HOK.out.one ?_; intro w9 HB9 HU9)
  refine bodyPost_ret (results_blk (cs := R) Tryz.results14 rfl (by rw [HOK.out.len]; exact agg_rs) HB9.out) rfl ?_
  exact ⟨rfl, hid (HX3.out.done HU9.out)⟩
set_option maxRecDepth 100000 in
set_option maxHeartbeats 1000000 in
theorem st35 (h : MM l E w) (a b c : Int) (ha : U64 a) (hb : U64 b) (hc : U64 c) : Calls Tryz.prog 14 #[.pointer (some ⟨l.m, 0, none⟩), .agg #[.int .u8 35, .int .u64 a, .int .u64 b, .int .u64 c]] w fun e w' => e = .returned (.agg (rsC (scrE E (nbI a) (nbI b)).1 0 0).toArray) ∧ Hid (MD w l (scrE E (nbI a) (nbI b)).2 w') := by
  have I0 := hid info_rs
  have HR := hid (fun (cd : Int) (wz : World) => refM cd wz)
  have HA := hid (fun wz => ansM 0 0 wz)
  obtain ⟨o, ho⟩ : ∃ o, w.heap.size = o := ⟨_, rfl⟩
  obtain ⟨p, hp⟩ : ∃ p, o + 1 = p := ⟨_, rfl⟩
  have HX : Hid (MP w l E o p [.int .u8 35, .int .u64 a, .int .u64 b, .int .u64 c] ((w.alloc (.cells #[.int .u8 35, .int .u64 a, .int .u64 b, .int .u64 c] 31)).alloc (.cells #[.int .u8 0, .int .u64 0, .int .u64 0, .string { data := #[] }, .int .i64 0, .int .i64 0, .int .i64 0, .int .i64 0, .int .i64 0, .int .i64 0, .int .i64 0, .int .i64 0, .int .i64 0, .int .i64 0, .int .i64 0, .int .i64 0, .int .i64 0, .int .i64 0, .int .i64 0, .int .i64 0, .int .u8 0, .int .i64 0, .int .i64 0, .int .i64 0, .int .i64 0, .int .i64 0, .int .i64 0, .int .i64 0, .int .i64 0, .int .i64 0, .int .i64 0, .int .i64 0, .int .i64 0, .int .i64 0, .int .i64 0] 46))) := hid (MP.start h ho hp)
  clear h
  obtain ⟨na, hna⟩ : ∃ n, nbI a = n := ⟨_, rfl⟩
  have HNa : Hid (∀ wz, Calls Tryz.prog 92 #[.int .u64 a] wz fun e w' => e = .returned (.int .i64 na) ∧ w' = wz) := hid (fun wz => by
    have := numM a ha wz
    rw [hna] at this
    exact this)
  have hra : -9223372036854775808 ≤ na ∧ na < 9223372036854775808 := by rw [← hna]; exact nbI_rng a
  rw [hna]
  clear hna
  obtain ⟨nb, hnb⟩ : ∃ n, nbI b = n := ⟨_, rfl⟩
  have HNb : Hid (∀ wz, Calls Tryz.prog 92 #[.int .u64 b] wz fun e w' => e = .returned (.int .i64 nb) ∧ w' = wz) := hid (fun wz => by
    have := numM b hb wz
    rw [hnb] at this
    exact this)
  have hrb : -9223372036854775808 ≤ nb ∧ nb < 9223372036854775808 := by rw [← hnb]; exact nbI_rng b
  rw [hnb]
  clear hnb
  have HK := hid (fun wz (hz : MM l E wz) => scrM hz na nb)
  obtain ⟨R, hR⟩ : ∃ R, rsC (scrE E na nb).1 0 0 = R := ⟨_, rfl⟩
  have HOK : Hid (RsOk R) := hid (by rw [← hR]; exact RsOk.c _ _ _)
  rw [hR] at HK ⊢
  obtain ⟨E1, hE1⟩ : ∃ E1, (scrE E na nb).2 = E1 := ⟨_, rfl⟩
  rw [hE1] at HK ⊢
  clear hE1
  clear hR
  go_enter Tryz.func14, Tryz.ntmps14
  go_upto_region 1 with fail
  (try simp only [World.size_alloc, ho, hp])
  generalize hw2 : World.alloc (w.alloc _) _ = w2 at HX ⊢
  clear hw2 ho hp
  obtain ⟨o0, o1, o2, o3⟩ := HX.out.cells
  go_upto_region 133 with fail
  refine wp_region_heavy (fun wz => Blk wz o 31 [.int .u8 35, .int .u64 a, .int .u64 b, .int .u64 c]) 8 [0, 1, 2, 3, 4, 5, 6] [7] rfl (by kernel_rfl) (by kernel_rfl) (fun d _ _ _ _ h => by cases d <;> exact h) (HX.out.below (Drew.below ⟨1, rfl⟩ _)).op ?_
  apply Exists.intro
  refine ⟨?_, ?_⟩
  · intro W hW
    have d1 : ∀ x, (W x).cell? ⟨o, 1, none⟩ = some (.int .u64 a) := fun x => (hW x).cell 1
    have d2 : ∀ x, (W x).cell? ⟨o, 2, none⟩ = some (.int .u64 b) := fun x => (hW x).cell 2
    have d3 : ∀ x, (W x).cell? ⟨o, 3, none⟩ = some (.int .u64 c) := fun x => (hW x).cell 3
    clear hW
    simp only [List.take, opsAt, List.drop, List.cons_append, List.nil_append]
    repeat (go_big_quiet_step (first | (go_at_call 92; first | with_reducible exact Calls.class_same (HNa.out _) | with_reducible exact Calls.class_same (HNb.out _))))
    exact rfl
  simp only [List.take, List.drop, opsAt, List.cons_append, List.nil_append, wpHv]
  have HD : Hid (MP w l E o p [.int .u8 35, .int .u64 a, .int .u64 b, .int .u64 c] w2.drew) := hid (HX.out.below (Drew.below ⟨1, rfl⟩ _))
  generalize w2.drew = wd at HD ⊢
  clear HX o0 o1 o2 o3
  go_wp2_with fail
  refine (HK.out _ HD.out.mx.md.mm).mono ?_
  rintro e w3 ⟨rfl, H3⟩
  have HX3 := hid (HD.out.step H3.out)
  clear H3 HD HK
  go_wp2_with fail
  refine ⟨HX3.out.op, ?_⟩
  simp only [QN]
  go_wp2_with (refine wpList_store_blk rfl 46 _ _ rfl p rfl R rfl HX3.out.mx.b (by rw [HOK.out.len]; rfl) (by rw [HOK.out.len]; exact I0.out) HOK.out.one ?_; intro w9 HB9 HU9)
  refine bodyPost_ret (results_blk (cs := R) Tryz.results14 rfl (by rw [HOK.out.len]; exact agg_rs) HB9.out) rfl ?_
  exact ⟨rfl, hid (HX3.out.done HU9.out)⟩
set_option maxRecDepth 100000 in
set_option maxHeartbeats 1000000 in
theorem st48 (h : MM l E w) (a b c : Int) (ha : U64 a) (hb : U64 b) (hc : U64 c) : Calls Tryz.prog 14 #[.pointer (some ⟨l.m, 0, none⟩), .agg #[.int .u8 48, .int .u64 a, .int .u64 b, .int .u64 c]] w fun e w' => e = .returned (.agg (fhR E.T (nbI a) (nbI b) (nbI c)).toArray) ∧ Hid (MD w l E w') := by
  have I0 := hid info_rs
  have HR := hid (fun (cd : Int) (wz : World) => refM cd wz)
  have HA := hid (fun wz => ansM 0 0 wz)
  obtain ⟨o, ho⟩ : ∃ o, w.heap.size = o := ⟨_, rfl⟩
  obtain ⟨p, hp⟩ : ∃ p, o + 1 = p := ⟨_, rfl⟩
  have HX : Hid (MP w l E o p [.int .u8 48, .int .u64 a, .int .u64 b, .int .u64 c] ((w.alloc (.cells #[.int .u8 48, .int .u64 a, .int .u64 b, .int .u64 c] 31)).alloc (.cells #[.int .u8 0, .int .u64 0, .int .u64 0, .string { data := #[] }, .int .i64 0, .int .i64 0, .int .i64 0, .int .i64 0, .int .i64 0, .int .i64 0, .int .i64 0, .int .i64 0, .int .i64 0, .int .i64 0, .int .i64 0, .int .i64 0, .int .i64 0, .int .i64 0, .int .i64 0, .int .i64 0, .int .u8 0, .int .i64 0, .int .i64 0, .int .i64 0, .int .i64 0, .int .i64 0, .int .i64 0, .int .i64 0, .int .i64 0, .int .i64 0, .int .i64 0, .int .i64 0, .int .i64 0, .int .i64 0, .int .i64 0] 46))) := hid (MP.start h ho hp)
  clear h
  obtain ⟨na, hna⟩ : ∃ n, nbI a = n := ⟨_, rfl⟩
  have HNa : Hid (∀ wz, Calls Tryz.prog 92 #[.int .u64 a] wz fun e w' => e = .returned (.int .i64 na) ∧ w' = wz) := hid (fun wz => by
    have := numM a ha wz
    rw [hna] at this
    exact this)
  have hra : -9223372036854775808 ≤ na ∧ na < 9223372036854775808 := by rw [← hna]; exact nbI_rng a
  rw [hna]
  clear hna
  obtain ⟨nb, hnb⟩ : ∃ n, nbI b = n := ⟨_, rfl⟩
  have HNb : Hid (∀ wz, Calls Tryz.prog 92 #[.int .u64 b] wz fun e w' => e = .returned (.int .i64 nb) ∧ w' = wz) := hid (fun wz => by
    have := numM b hb wz
    rw [hnb] at this
    exact this)
  have hrb : -9223372036854775808 ≤ nb ∧ nb < 9223372036854775808 := by rw [← hnb]; exact nbI_rng b
  rw [hnb]
  clear hnb
  obtain ⟨nc, hnc⟩ : ∃ n, nbI c = n := ⟨_, rfl⟩
  have HNc : Hid (∀ wz, Calls Tryz.prog 92 #[.int .u64 c] wz fun e w' => e = .returned (.int .i64 nc) ∧ w' = wz) := hid (fun wz => by
    have := numM c hc wz
    rw [hnc] at this
    exact this)
  have hrc : -9223372036854775808 ≤ nc ∧ nc < 9223372036854775808 := by rw [← hnc]; exact nbI_rng c
  rw [hnc]
  clear hnc
  have HK := hid (fun wz (hz : MM l E wz) => fitM hz na nb nc)
  obtain ⟨R, hR⟩ : ∃ R, fhR E.T na nb nc = R := ⟨_, rfl⟩
  have HOK : Hid (RsOk R) := hid (by rw [← hR]; exact rk_fhR _ _ _ _)
  rw [hR] at HK ⊢
  clear hR
  go_enter Tryz.func14, Tryz.ntmps14
  go_upto_region 1 with fail
  (try simp only [World.size_alloc, ho, hp])
  generalize hw2 : World.alloc (w.alloc _) _ = w2 at HX ⊢
  clear hw2 ho hp
  obtain ⟨o0, o1, o2, o3⟩ := HX.out.cells
  go_upto_region 127 with fail
  refine wp_region_heavy (fun wz => Blk wz o 31 [.int .u8 48, .int .u64 a, .int .u64 b, .int .u64 c]) 11 [0, 1, 2, 3, 4, 5, 6, 7, 8, 9] [10] rfl (by kernel_rfl) (by kernel_rfl) (fun d _ _ _ _ h => by cases d <;> exact h) (HX.out.below (Drew.below ⟨1, rfl⟩ _)).op ?_
  apply Exists.intro
  refine ⟨?_, ?_⟩
  · intro W hW
    have d1 : ∀ x, (W x).cell? ⟨o, 1, none⟩ = some (.int .u64 a) := fun x => (hW x).cell 1
    have d2 : ∀ x, (W x).cell? ⟨o, 2, none⟩ = some (.int .u64 b) := fun x => (hW x).cell 2
    have d3 : ∀ x, (W x).cell? ⟨o, 3, none⟩ = some (.int .u64 c) := fun x => (hW x).cell 3
    clear hW
    simp only [List.take, opsAt, List.drop, List.cons_append, List.nil_append]
    repeat (go_big_quiet_step (first | (go_at_call 92; first | with_reducible exact Calls.class_same (HNa.out _) | with_reducible exact Calls.class_same (HNb.out _) | with_reducible exact Calls.class_same (HNc.out _))))
    exact rfl
  simp only [List.take, List.drop, opsAt, List.cons_append, List.nil_append, wpHv]
  have HD : Hid (MP w l E o p [.int .u8 48, .int .u64 a, .int .u64 b, .int .u64 c] w2.drew) := hid (HX.out.below (Drew.below ⟨1, rfl⟩ _))
  generalize w2.drew = wd at HD ⊢
  clear HX o0 o1 o2 o3
  go_wp2_with fail
  refine (HK.out _ HD.out.mx.md.mm).mono ?_
  rintro e w3 ⟨rfl, H3⟩
  have HX3 := hid (HD.out.step H3.out)
  clear H3 HD HK
  go_wp2_with fail
  refine ⟨HX3.out.op, ?_⟩
  simp only [QN]
  go_wp2_with (refine wpList_store_blk rfl 46 _ _ rfl p rfl R rfl HX3.out.mx.b (by rw [HOK.out.len]; rfl) (by rw [HOK.out.len]; exact I0.out) HOK.out.one ?_; intro w9 HB9 HU9)
  refine bodyPost_ret (results_blk (cs := R) Tryz.results14 rfl (by rw [HOK.out.len]; exact agg_rs) HB9.out) rfl ?_
  exact ⟨rfl, hid (HX3.out.done HU9.out)⟩
set_option maxRecDepth 100000 in
set_option maxHeartbeats 1000000 in
theorem st51 (h : MM l E w) (a b c : Int) (ha : U64 a) (hb : U64 b) (hc : U64 c) : Calls Tryz.prog 14 #[.pointer (some ⟨l.m, 0, none⟩), .agg #[.int .u8 51, .int .u64 a, .int .u64 b, .int .u64 c]] w fun e w' => e = .returned (.agg (ecR E (nbI a) b.toNat).toArray) ∧ Hid (MD w l E w') := by
  have I0 := hid info_rs
  have HR := hid (fun (cd : Int) (wz : World) => refM cd wz)
  have HA := hid (fun wz => ansM 0 0 wz)
  obtain ⟨o, ho⟩ : ∃ o, w.heap.size = o := ⟨_, rfl⟩
  obtain ⟨p, hp⟩ : ∃ p, o + 1 = p := ⟨_, rfl⟩
  have HX : Hid (MP w l E o p [.int .u8 51, .int .u64 a, .int .u64 b, .int .u64 c] ((w.alloc (.cells #[.int .u8 51, .int .u64 a, .int .u64 b, .int .u64 c] 31)).alloc (.cells #[.int .u8 0, .int .u64 0, .int .u64 0, .string { data := #[] }, .int .i64 0, .int .i64 0, .int .i64 0, .int .i64 0, .int .i64 0, .int .i64 0, .int .i64 0, .int .i64 0, .int .i64 0, .int .i64 0, .int .i64 0, .int .i64 0, .int .i64 0, .int .i64 0, .int .i64 0, .int .i64 0, .int .u8 0, .int .i64 0, .int .i64 0, .int .i64 0, .int .i64 0, .int .i64 0, .int .i64 0, .int .i64 0, .int .i64 0, .int .i64 0, .int .i64 0, .int .i64 0, .int .i64 0, .int .i64 0, .int .i64 0] 46))) := hid (MP.start h ho hp)
  clear h
  obtain ⟨na, hna⟩ : ∃ n, nbI a = n := ⟨_, rfl⟩
  have HNa : Hid (∀ wz, Calls Tryz.prog 92 #[.int .u64 a] wz fun e w' => e = .returned (.int .i64 na) ∧ w' = wz) := hid (fun wz => by
    have := numM a ha wz
    rw [hna] at this
    exact this)
  have hra : -9223372036854775808 ≤ na ∧ na < 9223372036854775808 := by rw [← hna]; exact nbI_rng a
  rw [hna]
  clear hna
  obtain ⟨mo, hmo⟩ : ∃ mo : Nat, b = (mo : Int) := ⟨b.toNat, by have := hb.1; omega⟩
  subst hmo
  have hmb : mo < 18446744073709551616 := by have := hb.2; omega
  rw [show ((mo : Int)).toNat = mo by omega]
  have HK := hid (fun wz (hz : MM l E wz) => eachCountedM hz na mo hmb)
  obtain ⟨R, hR⟩ : ∃ R, ecR E na mo = R := ⟨_, rfl⟩
  have HOK : Hid (RsOk R) := hid (by rw [← hR]; exact rk_ecR _ _ _)
  rw [hR] at HK ⊢
  clear hR
  go_enter Tryz.func14, Tryz.ntmps14
  go_upto_region 1 with fail
  (try simp only [World.size_alloc, ho, hp])
  generalize hw2 : World.alloc (w.alloc _) _ = w2 at HX ⊢
  clear hw2 ho hp
  obtain ⟨o0, o1, o2, o3⟩ := HX.out.cells
  go_upto_region 145 with fail
  refine wp_region_heavy (fun wz => Blk wz o 31 [.int .u8 51, .int .u64 a, .int .u64 (mo : Int), .int .u64 c]) 7 [0, 1, 2, 3, 4, 5] [6] rfl (by kernel_rfl) (by kernel_rfl) (fun d _ _ _ _ h => by cases d <;> exact h) (HX.out.below (Drew.below ⟨1, rfl⟩ _)).op ?_
  apply Exists.intro
  refine ⟨?_, ?_⟩
  · intro W hW
    have d1 : ∀ x, (W x).cell? ⟨o, 1, none⟩ = some (.int .u64 a) := fun x => (hW x).cell 1
    have d2 : ∀ x, (W x).cell? ⟨o, 2, none⟩ = some (.int .u64 (mo : Int)) := fun x => (hW x).cell 2
    have d3 : ∀ x, (W x).cell? ⟨o, 3, none⟩ = some (.int .u64 c) := fun x => (hW x).cell 3
    clear hW
    simp only [List.take, opsAt, List.drop, List.cons_append, List.nil_append]
    repeat (go_big_quiet_step (first | (go_at_call 92; first | with_reducible exact Calls.class_same (HNa.out _))))
    exact rfl
  simp only [List.take, List.drop, opsAt, List.cons_append, List.nil_append, wpHv]
  have HD : Hid (MP w l E o p [.int .u8 51, .int .u64 a, .int .u64 (mo : Int), .int .u64 c] w2.drew) := hid (HX.out.below (Drew.below ⟨1, rfl⟩ _))
  generalize w2.drew = wd at HD ⊢
  clear HX o0 o1 o2 o3
  go_wp2_with fail
  refine (HK.out _ HD.out.mx.md.mm).mono ?_
  rintro e w3 ⟨rfl, H3⟩
  have HX3 := hid (HD.out.step H3.out)
  clear H3 HD HK
  go_wp2_with fail
  refine ⟨HX3.out.op, ?_⟩
  simp only [QN]
  go_wp2_with (refine wpList_store_blk rfl 46 _ _ rfl p rfl R rfl HX3.out.mx.b (by rw [HOK.out.len]; rfl) (by rw [HOK.out.len]; exact I0.out) HOK.out.one ?_; intro w9 HB9 HU9)
  refine bodyPost_ret (results_blk (cs := R) Tryz.results14 rfl (by rw [HOK.out.len]; exact agg_rs) HB9.out) rfl ?_
  exact ⟨rfl, hid (HX3.out.done HU9.out)⟩
end
end Go.Proofs.Qxb6500887aGreat
