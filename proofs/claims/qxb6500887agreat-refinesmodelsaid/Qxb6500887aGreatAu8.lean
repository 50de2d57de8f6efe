/- Reading steps with their answers (written by tools/mk_au.py). -/
import Derived.Test.Qxb6500887aGreatAv7
import Derived.Test.Qxb6500887aGreatAx7
import Derived.Test.Qxb6500887aGreatAzZl
import Derived.Deep.DeepCutAuto
namespace Go.Proofs.Qxb6500887aGreat
open Go.RowKit
set_option linter.unusedSimpArgs false
set_option linter.unusedVariables false
section
variable {l : AL} {S S' : AS} {w w' w0 : World}
set_option maxRecDepth 100000 in
set_option maxHeartbeats 8000000 in
theorem px33 (h : AM l S w) (a b c : Int) (ha : U64 a) (hb : U64 b) (hc : U64 c) : Calls Tryz.prog 189 #[.pointer (some ⟨l.a, 0, none⟩), .agg #[.int .u8 33, .int .u64 a, .int .u64 b, .int .u64 c]] w (PyE l S w (stR (abE S) 33 a b c).1) := by
  have I0 := hid info_rs
  obtain ⟨p, hp⟩ : ∃ p, w.heap.size = p := ⟨_, rfl⟩
  obtain ⟨r, hr⟩ : ∃ r, p + 1 = r := ⟨_, rfl⟩
  have H0 : Hid (PX l S w p r [.int .u8 33, .int .u64 a, .int .u64 b, .int .u64 c] ((w.alloc (.cells #[.int .u8 33, .int .u64 a, .int .u64 b, .int .u64 c] 31)).alloc (.cells #[.int .u8 0, .int .u64 0, .int .u64 0, .string { data := #[] }, .int .i64 0, .int .i64 0, .int .i64 0, .int .i64 0, .int .i64 0, .int .i64 0, .int .i64 0, .int .i64 0, .int .i64 0, .int .i64 0, .int .i64 0, .int .i64 0, .int .i64 0, .int .i64 0, .int .i64 0, .int .i64 0, .int .u8 0, .int .i64 0, .int .i64 0, .int .i64 0, .int .i64 0, .int .i64 0, .int .i64 0, .int .i64 0, .int .i64 0, .int .i64 0, .int .i64 0, .int .i64 0, .int .i64 0, .int .i64 0, .int .i64 0] 46))) := hid (PX.start h hp hr)
  obtain ⟨na, hna⟩ : ∃ n, nbI a = n := ⟨_, rfl⟩
  have HNna : Hid (∀ wz, Calls Tryz.prog 26 #[.int .u64 a] wz fun e w' => e = .returned (.int .i64 na) ∧ w' = wz) := hid (fun wz => by
    have := number_walk a ha wz
    rw [show wrap64 a = na from hna] at this
    exact this)
  obtain ⟨nb, hnb⟩ : ∃ n, nbI b = n := ⟨_, rfl⟩
  have HNnb : Hid (∀ wz, Calls Tryz.prog 26 #[.int .u64 b] wz fun e w' => e = .returned (.int .i64 nb) ∧ w' = wz) := hid (fun wz => by
    have := number_walk b hb wz
    rw [show wrap64 b = nb from hnb] at this
    exact this)
  have HK := hid (fun wz (hz : AM l S wz) => nextHoleZ hz na nb)
  have Hna_ := hid hna
  have Hnb_ := hid hnb
  clear h hna hnb
  go_enter Tryz.func189, Tryz.ntmps189
  go_upto_region 1 with fail
  (try simp only [World.size_alloc, hp, hr])
  generalize hw1 : World.alloc (w.alloc _) _ = w1 at H0 ⊢
  clear hw1 hp hr
  obtain ⟨c0, c1, c2, c3⟩ := H0.out.cells
  go_upto_region 17 with fail
  refine wp_region_hlh (fun wz => Blk wz p 31 [.int .u8 33, .int .u64 a, .int .u64 b, .int .u64 c]) 15 [0, 1, 2, 3, 4, 5, 6] [7, 8] [9, 10, 11, 12, 13, 14] [] rfl (by kernel_rfl) (by kernel_rfl) (fun d _ _ _ _ h => by cases d <;> exact h) (H0.out.below (Drew.below ⟨1, rfl⟩ _)).op ?_
  apply Exists.intro
  refine ⟨?_, ?_⟩
  · intro W hW
    have d1 : ∀ x, (W x).cell? ⟨p, 1, none⟩ = some (.int .u64 a) := fun x => (hW x).cell 1
    have d2 : ∀ x, (W x).cell? ⟨p, 2, none⟩ = some (.int .u64 b) := fun x => (hW x).cell 2
    have d3 : ∀ x, (W x).cell? ⟨p, 3, none⟩ = some (.int .u64 c) := fun x => (hW x).cell 3
    clear hW
    simp only [List.take, opsAt, List.drop, List.cons_append, List.nil_append]
    repeat (go_big_quiet_step (first | (go_at_call 26; first | with_reducible exact Calls.class_same (HNna.out _) | with_reducible exact Calls.class_same (HNnb.out _))))
    exact rfl
  simp only [List.take, List.drop, opsAt, List.cons_append, List.nil_append, wpHvK]
  have H1 : Hid (PX l S w p r [.int .u8 33, .int .u64 a, .int .u64 b, .int .u64 c] w1.drew) := hid (H0.out.below (Drew.below ⟨1, rfl⟩ _))
  generalize w1.drew = w1d at H1 ⊢
  clear H0 c0 c1 c2 c3
  have HC := hid (HK.out w1d H1.out.am)
  go_wp2_with fail
  refine HC.out.mono ?_
  rintro e w2 ⟨v, u, cd, rfl, hb_⟩
  have H2 := hid (H1.out.below hb_.out.2)
  have HNg := hid hb_.out.1
  clear hb_
  obtain ⟨v2, hv2⟩ : ∃ vv_ : Int, IntKind.u64.wrap (v) = vv_ := ⟨_, rfl⟩
  obtain ⟨u2, hu2⟩ : ∃ vv_ : Int, IntKind.u64.wrap (u) = vv_ := ⟨_, rfl⟩
  clear HC H1
  go_wp2_with fail
  refine ⟨H2.out.op, ?_⟩
  go_wp2_with fail
  refine ⟨H2.out.op, ?_⟩
  apply Exists.intro
  refine ⟨?_, ?_⟩
  · intro W hW
    clear hW
    repeat (go_big_quiet_step (fail))
    exact rfl
  simp only [wpHv]
  simp only [QN]
  as_aux_lemma =>
  obtain ⟨c0, c1, c2, c3⟩ := H2.out.cells
  have HC := hid (H2.out.bel (giveZ v2 u2 cd w2))
  go_wp2_with fail
  refine HC.out.mono ?_
  rintro e w4 ⟨rfl, H3⟩
  clear HC H2 c0 c1 c2 c3
  obtain ⟨c0, c1, c2, c3⟩ := H3.out.cells
  clear c0 c1 c2 c3
  go_wp2_with (refine wpList_store_blk rfl 46 _ _ rfl r rfl (rsG cd v2 u2) rfl H3.out.rb (by first | rfl | (rw [rsG_len]; rfl)) (by first | exact I0.out | (rw [rsG_len]; exact I0.out)) (rsG_one _ _ _) ?_; intro w9 HB9 HU9)
  refine bodyPost_ret (results_blk (cs := rsG cd v2 u2) Tryz.results189 rfl (by first | exact agg_rs | (rw [rsG_len]; exact agg_rs)) HB9.out) rfl ?_
  exact PyE.mk rfl (rd33 Hna_.out Hnb_.out HNg.out hv2 hu2) (H3.out.done HU9.out)
set_option maxRecDepth 100000 in
set_option maxHeartbeats 8000000 in
theorem px48 (h : AM l S w) (a b c : Int) (ha : U64 a) (hb : U64 b) (hc : U64 c) : Calls Tryz.prog 189 #[.pointer (some ⟨l.a, 0, none⟩), .agg #[.int .u8 48, .int .u64 a, .int .u64 b, .int .u64 c]] w (PyE l S w (stR (abE S) 48 a b c).1) := by
  have I0 := hid info_rs
  obtain ⟨p, hp⟩ : ∃ p, w.heap.size = p := ⟨_, rfl⟩
  obtain ⟨r, hr⟩ : ∃ r, p + 1 = r := ⟨_, rfl⟩
  have H0 : Hid (PX l S w p r [.int .u8 48, .int .u64 a, .int .u64 b, .int .u64 c] ((w.alloc (.cells #[.int .u8 48, .int .u64 a, .int .u64 b, .int .u64 c] 31)).alloc (.cells #[.int .u8 0, .int .u64 0, .int .u64 0, .string { data := #[] }, .int .i64 0, .int .i64 0, .int .i64 0, .int .i64 0, .int .i64 0, .int .i64 0, .int .i64 0, .int .i64 0, .int .i64 0, .int .i64 0, .int .i64 0, .int .i64 0, .int .i64 0, .int .i64 0, .int .i64 0, .int .i64 0, .int .u8 0, .int .i64 0, .int .i64 0, .int .i64 0, .int .i64 0, .int .i64 0, .int .i64 0, .int .i64 0, .int .i64 0, .int .i64 0, .int .i64 0, .int .i64 0, .int .i64 0, .int .i64 0, .int .i64 0] 46))) := hid (PX.start h hp hr)
  obtain ⟨na, hna⟩ : ∃ n, nbI a = n := ⟨_, rfl⟩
  have HNna : Hid (∀ wz, Calls Tryz.prog 26 #[.int .u64 a] wz fun e w' => e = .returned (.int .i64 na) ∧ w' = wz) := hid (fun wz => by
    have := number_walk a ha wz
    rw [show wrap64 a = na from hna] at this
    exact this)
  obtain ⟨nb, hnb⟩ : ∃ n, nbI b = n := ⟨_, rfl⟩
  have HNnb : Hid (∀ wz, Calls Tryz.prog 26 #[.int .u64 b] wz fun e w' => e = .returned (.int .i64 nb) ∧ w' = wz) := hid (fun wz => by
    have := number_walk b hb wz
    rw [show wrap64 b = nb from hnb] at this
    exact this)
  obtain ⟨nc, hnc⟩ : ∃ n, nbI c = n := ⟨_, rfl⟩
  have HNnc : Hid (∀ wz, Calls Tryz.prog 26 #[.int .u64 c] wz fun e w' => e = .returned (.int .i64 nc) ∧ w' = wz) := hid (fun wz => by
    have := number_walk c hc wz
    rw [show wrap64 c = nc from hnc] at this
    exact this)
  have HK := hid (fun wz (hz : AM l S wz) => fitHoleZ hz na nb nc)
  have Hna_ := hid hna
  have Hnb_ := hid hnb
  have Hnc_ := hid hnc
  clear h hna hnb hnc
  go_enter Tryz.func189, Tryz.ntmps189
  go_upto_region 1 with fail
  (try simp only [World.size_alloc, hp, hr])
  generalize hw1 : World.alloc (w.alloc _) _ = w1 at H0 ⊢
  clear hw1 hp hr
  obtain ⟨c0, c1, c2, c3⟩ := H0.out.cells
  go_upto_region 20 with fail
  refine wp_region_hlh (fun wz => Blk wz p 31 [.int .u8 48, .int .u64 a, .int .u64 b, .int .u64 c]) 18 [0, 1, 2, 3, 4, 5, 6, 7, 8, 9] [10, 11] [12, 13, 14, 15, 16, 17] [] rfl (by kernel_rfl) (by kernel_rfl) (fun d _ _ _ _ h => by cases d <;> exact h) (H0.out.below (Drew.below ⟨1, rfl⟩ _)).op ?_
  apply Exists.intro
  refine ⟨?_, ?_⟩
  · intro W hW
    have d1 : ∀ x, (W x).cell? ⟨p, 1, none⟩ = some (.int .u64 a) := fun x => (hW x).cell 1
    have d2 : ∀ x, (W x).cell? ⟨p, 2, none⟩ = some (.int .u64 b) := fun x => (hW x).cell 2
    have d3 : ∀ x, (W x).cell? ⟨p, 3, none⟩ = some (.int .u64 c) := fun x => (hW x).cell 3
    clear hW
    simp only [List.take, opsAt, List.drop, List.cons_append, List.nil_append]
    repeat (go_big_quiet_step (first | (go_at_call 26; first | with_reducible exact Calls.class_same (HNna.out _) | with_reducible exact Calls.class_same (HNnb.out _) | with_reducible exact Calls.class_same (HNnc.out _))))
    exact rfl
  simp only [List.take, List.drop, opsAt, List.cons_append, List.nil_append, wpHvK]
  have H1 : Hid (PX l S w p r [.int .u8 48, .int .u64 a, .int .u64 b, .int .u64 c] w1.drew) := hid (H0.out.below (Drew.below ⟨1, rfl⟩ _))
  generalize w1.drew = w1d at H1 ⊢
  clear H0 c0 c1 c2 c3
  have HC := hid (HK.out w1d H1.out.am)
  go_wp2_with fail
  refine HC.out.mono ?_
  rintro e w2 ⟨v, u, cd, rfl, hb_⟩
  have H2 := hid (H1.out.below hb_.out.2)
  have HNg := hid hb_.out.1
  clear hb_
  obtain ⟨v2, hv2⟩ : ∃ vv_ : Int, IntKind.u64.wrap (v) = vv_ := ⟨_, rfl⟩
  obtain ⟨u2, hu2⟩ : ∃ vv_ : Int, IntKind.u64.wrap (u) = vv_ := ⟨_, rfl⟩
  clear HC H1
  go_wp2_with fail
  refine ⟨H2.out.op, ?_⟩
  go_wp2_with fail
  refine ⟨H2.out.op, ?_⟩
  apply Exists.intro
  refine ⟨?_, ?_⟩
  · intro W hW
    clear hW
    repeat (go_big_quiet_step (fail))
    exact rfl
  simp only [wpHv]
  simp only [QN]
  as_aux_lemma =>
  obtain ⟨c0, c1, c2, c3⟩ := H2.out.cells
  have HC := hid (H2.out.bel (giveZ v2 u2 cd w2))
  go_wp2_with fail
  refine HC.out.mono ?_
  rintro e w4 ⟨rfl, H3⟩
  clear HC H2 c0 c1 c2 c3
  obtain ⟨c0, c1, c2, c3⟩ := H3.out.cells
  clear c0 c1 c2 c3
  go_wp2_with (refine wpList_store_blk rfl 46 _ _ rfl r rfl (rsG cd v2 u2) rfl H3.out.rb (by first | rfl | (rw [rsG_len]; rfl)) (by first | exact I0.out | (rw [rsG_len]; exact I0.out)) (rsG_one _ _ _) ?_; intro w9 HB9 HU9)
  refine bodyPost_ret (results_blk (cs := rsG cd v2 u2) Tryz.results189 rfl (by first | exact agg_rs | (rw [rsG_len]; exact agg_rs)) HB9.out) rfl ?_
  exact PyE.mk rfl (rd48 Hna_.out Hnb_.out Hnc_.out HNg.out hv2 hu2) (H3.out.done HU9.out)
end
end Go.Proofs.Qxb6500887aGreat
