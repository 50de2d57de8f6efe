/- Reading steps with their answers (written by tools/mk_au.py). -/
import Derived.Test.Qxb6500887aGreatAtB
import Derived.Deep.DeepCutAuto
namespace Go.Proofs.Qxb6500887aGreat
open Go.RowKit
set_option linter.unusedSimpArgs false
set_option linter.unusedVariables false
section
variable {l : AL} {S S' : AS} {w w' w0 : World}
set_option maxRecDepth 100000 in
set_option maxHeartbeats 8000000 in
theorem px56 (h : AM l S w) (a b c : Int) (ha : U64 a) (hb : U64 b) (hc : U64 c) : Calls Tryz.prog 189 #[.pointer (some ⟨l.a, 0, none⟩), .agg #[.int .u8 56, .int .u64 a, .int .u64 b, .int .u64 c]] w (PyE l S w (stR (abE S) 56 a b c).1) := by
  have I0 := hid info_rs
  obtain ⟨p, hp⟩ : ∃ p, w.heap.size = p := ⟨_, rfl⟩
  obtain ⟨r, hr⟩ : ∃ r, p + 1 = r := ⟨_, rfl⟩
  have H0 : Hid (PX l S w p r [.int .u8 56, .int .u64 a, .int .u64 b, .int .u64 c] ((w.alloc (.cells #[.int .u8 56, .int .u64 a, .int .u64 b, .int .u64 c] 31)).alloc (.cells #[.int .u8 0, .int .u64 0, .int .u64 0, .string { data := #[] }, .int .i64 0, .int .i64 0, .int .i64 0, .int .i64 0, .int .i64 0, .int .i64 0, .int .i64 0, .int .i64 0, .int .i64 0, .int .i64 0, .int .i64 0, .int .i64 0, .int .i64 0, .int .i64 0, .int .i64 0, .int .i64 0, .int .u8 0, .int .i64 0, .int .i64 0, .int .i64 0, .int .i64 0, .int .i64 0, .int .i64 0, .int .i64 0, .int .i64 0, .int .i64 0, .int .i64 0, .int .i64 0, .int .i64 0, .int .i64 0, .int .i64 0] 46))) := hid (PX.start h hp hr)
  have HK := hid (fun wz (hz : AM l S wz) => heapMapX2 hz)
  clear h
  go_enter Tryz.func189, Tryz.ntmps189
  go_upto_region 1 with fail
  (try simp only [World.size_alloc, hp, hr])
  generalize hw1 : World.alloc (w.alloc _) _ = w1 at H0 ⊢
  clear hw1 hp hr
  obtain ⟨c0, c1, c2, c3⟩ := H0.out.cells
  have HC := hid (HK.out w1 H0.out.am)
  go_wp2_with fail
  refine HC.out.mono ?_
  rintro e w2 ⟨s, rfl, hb_⟩
  have H1 := hid (H0.out.below hb_.out.2)
  have HEq : Hid (rsOf s 0 [0, 0, 0, 0, 0, 0, 0, 0] [0, 0, 0, 0, 0] [0, 0, 0] 0 [0, 0, 0, 0, 0, 0] [0, 0, 0, 0, 0, 0, 0, 0] = (stR (abE S) 56 a b c).1) := hid (by rw [hb_.out.1]; rfl)
  clear hb_
  clear HC H0 c0 c1 c2 c3
  obtain ⟨c0, c1, c2, c3⟩ := H1.out.cells
  clear c0 c1 c2 c3
  go_wp2_with (refine wpList_store_blk rfl 46 _ _ rfl r rfl (rsOf s 0 [0, 0, 0, 0, 0, 0, 0, 0] [0, 0, 0, 0, 0] [0, 0, 0] 0 [0, 0, 0, 0, 0, 0] [0, 0, 0, 0, 0, 0, 0, 0]) rfl H1.out.rb (by first | rfl | (rw [show (rsOf s 0 [0, 0, 0, 0, 0, 0, 0, 0] [0, 0, 0, 0, 0] [0, 0, 0] 0 [0, 0, 0, 0, 0, 0] [0, 0, 0, 0, 0, 0, 0, 0]).length = 35 from rfl]; rfl)) (by first | exact I0.out | (rw [show (rsOf s 0 [0, 0, 0, 0, 0, 0, 0, 0] [0, 0, 0, 0, 0] [0, 0, 0] 0 [0, 0, 0, 0, 0, 0] [0, 0, 0, 0, 0, 0, 0, 0]).length = 35 from rfl]; exact I0.out)) (rsOf_one _ _ _ _ _ _ _ _) ?_; intro w9 HB9 HU9)
  refine bodyPost_ret (results_blk (cs := rsOf s 0 [0, 0, 0, 0, 0, 0, 0, 0] [0, 0, 0, 0, 0] [0, 0, 0] 0 [0, 0, 0, 0, 0, 0] [0, 0, 0, 0, 0, 0, 0, 0]) Tryz.results189 rfl (by first | exact agg_rs | (rw [show (rsOf s 0 [0, 0, 0, 0, 0, 0, 0, 0] [0, 0, 0, 0, 0] [0, 0, 0] 0 [0, 0, 0, 0, 0, 0] [0, 0, 0, 0, 0, 0, 0, 0]).length = 35 from rfl]; exact agg_rs)) HB9.out) rfl ?_
  exact PyE.mk rfl (HEq.out) (H1.out.done HU9.out)
set_option maxRecDepth 100000 in
set_option maxHeartbeats 8000000 in
theorem px57 (h : AM l S w) (a b c : Int) (ha : U64 a) (hb : U64 b) (hc : U64 c) : Calls Tryz.prog 189 #[.pointer (some ⟨l.a, 0, none⟩), .agg #[.int .u8 57, .int .u64 a, .int .u64 b, .int .u64 c]] w (PyE l S w (stR (abE S) 57 a b c).1) := by
  have I0 := hid info_rs
  obtain ⟨p, hp⟩ : ∃ p, w.heap.size = p := ⟨_, rfl⟩
  obtain ⟨r, hr⟩ : ∃ r, p + 1 = r := ⟨_, rfl⟩
  have H0 : Hid (PX l S w p r [.int .u8 57, .int .u64 a, .int .u64 b, .int .u64 c] ((w.alloc (.cells #[.int .u8 57, .int .u64 a, .int .u64 b, .int .u64 c] 31)).alloc (.cells #[.int .u8 0, .int .u64 0, .int .u64 0, .string { data := #[] }, .int .i64 0, .int .i64 0, .int .i64 0, .int .i64 0, .int .i64 0, .int .i64 0, .int .i64 0, .int .i64 0, .int .i64 0, .int .i64 0, .int .i64 0, .int .i64 0, .int .i64 0, .int .i64 0, .int .i64 0, .int .i64 0, .int .u8 0, .int .i64 0, .int .i64 0, .int .i64 0, .int .i64 0, .int .i64 0, .int .i64 0, .int .i64 0, .int .i64 0, .int .i64 0, .int .i64 0, .int .i64 0, .int .i64 0, .int .i64 0, .int .i64 0] 46))) := hid (PX.start h hp hr)
  have HK := hid (fun wz (hz : AM l S wz) => describeX hz a ha)
  clear h
  go_enter Tryz.func189, Tryz.ntmps189
  go_upto_region 1 with fail
  (try simp only [World.size_alloc, hp, hr])
  generalize hw1 : World.alloc (w.alloc _) _ = w1 at H0 ⊢
  clear hw1 hp hr
  obtain ⟨c0, c1, c2, c3⟩ := H0.out.cells
  have HC := hid (HK.out w1 H0.out.am)
  go_wp2_with fail
  refine HC.out.mono ?_
  rintro e w2 ⟨s, rfl, hb_⟩
  have H1 := hid (H0.out.below hb_.out.2)
  have HEq : Hid (rsOf s 0 [0, 0, 0, 0, 0, 0, 0, 0] [0, 0, 0, 0, 0] [0, 0, 0] 0 [0, 0, 0, 0, 0, 0] [0, 0, 0, 0, 0, 0, 0, 0] = (stR (abE S) 57 a b c).1) := hid (by rw [hb_.out.1]; rfl)
  clear hb_
  clear HC H0 c0 c1 c2 c3
  obtain ⟨c0, c1, c2, c3⟩ := H1.out.cells
  clear c0 c1 c2 c3
  go_wp2_with (refine wpList_store_blk rfl 46 _ _ rfl r rfl (rsOf s 0 [0, 0, 0, 0, 0, 0, 0, 0] [0, 0, 0, 0, 0] [0, 0, 0] 0 [0, 0, 0, 0, 0, 0] [0, 0, 0, 0, 0, 0, 0, 0]) rfl H1.out.rb (by first | rfl | (rw [show (rsOf s 0 [0, 0, 0, 0, 0, 0, 0, 0] [0, 0, 0, 0, 0] [0, 0, 0] 0 [0, 0, 0, 0, 0, 0] [0, 0, 0, 0, 0, 0, 0, 0]).length = 35 from rfl]; rfl)) (by first | exact I0.out | (rw [show (rsOf s 0 [0, 0, 0, 0, 0, 0, 0, 0] [0, 0, 0, 0, 0] [0, 0, 0] 0 [0, 0, 0, 0, 0, 0] [0, 0, 0, 0, 0, 0, 0, 0]).length = 35 from rfl]; exact I0.out)) (rsOf_one _ _ _ _ _ _ _ _) ?_; intro w9 HB9 HU9)
  refine bodyPost_ret (results_blk (cs := rsOf s 0 [0, 0, 0, 0, 0, 0, 0, 0] [0, 0, 0, 0, 0] [0, 0, 0] 0 [0, 0, 0, 0, 0, 0] [0, 0, 0, 0, 0, 0, 0, 0]) Tryz.results189 rfl (by first | exact agg_rs | (rw [show (rsOf s 0 [0, 0, 0, 0, 0, 0, 0, 0] [0, 0, 0, 0, 0] [0, 0, 0] 0 [0, 0, 0, 0, 0, 0] [0, 0, 0, 0, 0, 0, 0, 0]).length = 35 from rfl]; exact agg_rs)) HB9.out) rfl ?_
  exact PyE.mk rfl (HEq.out) (H1.out.done HU9.out)
set_option maxRecDepth 100000 in
set_option maxHeartbeats 8000000 in
theorem px58 (h : AM l S w) (a b c : Int) (ha : U64 a) (hb : U64 b) (hc : U64 c) : Calls Tryz.prog 189 #[.pointer (some ⟨l.a, 0, none⟩), .agg #[.int .u8 58, .int .u64 a, .int .u64 b, .int .u64 c]] w (PyE l S w (stR (abE S) 58 a b c).1) := by
  have I0 := hid info_rs
  obtain ⟨p, hp⟩ : ∃ p, w.heap.size = p := ⟨_, rfl⟩
  obtain ⟨r, hr⟩ : ∃ r, p + 1 = r := ⟨_, rfl⟩
  have H0 : Hid (PX l S w p r [.int .u8 58, .int .u64 a, .int .u64 b, .int .u64 c] ((w.alloc (.cells #[.int .u8 58, .int .u64 a, .int .u64 b, .int .u64 c] 31)).alloc (.cells #[.int .u8 0, .int .u64 0, .int .u64 0, .string { data := #[] }, .int .i64 0, .int .i64 0, .int .i64 0, .int .i64 0, .int .i64 0, .int .i64 0, .int .i64 0, .int .i64 0, .int .i64 0, .int .i64 0, .int .i64 0, .int .i64 0, .int .i64 0, .int .i64 0, .int .i64 0, .int .i64 0, .int .u8 0, .int .i64 0, .int .i64 0, .int .i64 0, .int .i64 0, .int .i64 0, .int .i64 0, .int .i64 0, .int .i64 0, .int .i64 0, .int .i64 0, .int .i64 0, .int .i64 0, .int .i64 0, .int .i64 0] 46))) := hid (PX.start h hp hr)
  have HK := hid (fun wz => formatAddrX a ha wz)
  clear h
  go_enter Tryz.func189, Tryz.ntmps189
  go_upto_region 1 with fail
  (try simp only [World.size_alloc, hp, hr])
  generalize hw1 : World.alloc (w.alloc _) _ = w1 at H0 ⊢
  clear hw1 hp hr
  obtain ⟨c0, c1, c2, c3⟩ := H0.out.cells
  have HC := hid (HK.out w1)
  go_wp2_with fail
  refine HC.out.mono ?_
  rintro e w2 ⟨s, rfl, hb_⟩
  have H1 := hid (H0.out.below hb_.out.2)
  have HEq : Hid (rsOf s 0 [0, 0, 0, 0, 0, 0, 0, 0] [0, 0, 0, 0, 0] [0, 0, 0] 0 [0, 0, 0, 0, 0, 0] [0, 0, 0, 0, 0, 0, 0, 0] = (stR (abE S) 58 a b c).1) := hid (by rw [hb_.out.1]; rfl)
  clear hb_
  clear HC H0 c0 c1 c2 c3
  obtain ⟨c0, c1, c2, c3⟩ := H1.out.cells
  clear c0 c1 c2 c3
  go_wp2_with (refine wpList_store_blk rfl 46 _ _ rfl r rfl (rsOf s 0 [0, 0, 0, 0, 0, 0, 0, 0] [0, 0, 0, 0, 0] [0, 0, 0] 0 [0, 0, 0, 0, 0, 0] [0, 0, 0, 0, 0, 0, 0, 0]) rfl H1.out.rb (by first | rfl | (rw [show (rsOf s 0 [0, 0, 0, 0, 0, 0, 0, 0] [0, 0, 0, 0, 0] [0, 0, 0] 0 [0, 0, 0, 0, 0, 0] [0, 0, 0, 0, 0, 0, 0, 0]).length = 35 from rfl]; rfl)) (by first | exact I0.out | (rw [show (rsOf s 0 [0, 0, 0, 0, 0, 0, 0, 0] [0, 0, 0, 0, 0] [0, 0, 0] 0 [0, 0, 0, 0, 0, 0] [0, 0, 0, 0, 0, 0, 0, 0]).length = 35 from rfl]; exact I0.out)) (rsOf_one _ _ _ _ _ _ _ _) ?_; intro w9 HB9 HU9)
  refine bodyPost_ret (results_blk (cs := rsOf s 0 [0, 0, 0, 0, 0, 0, 0, 0] [0, 0, 0, 0, 0] [0, 0, 0] 0 [0, 0, 0, 0, 0, 0] [0, 0, 0, 0, 0, 0, 0, 0]) Tryz.results189 rfl (by first | exact agg_rs | (rw [show (rsOf s 0 [0, 0, 0, 0, 0, 0, 0, 0] [0, 0, 0, 0, 0] [0, 0, 0] 0 [0, 0, 0, 0, 0, 0] [0, 0, 0, 0, 0, 0, 0, 0]).length = 35 from rfl]; exact agg_rs)) HB9.out) rfl ?_
  exact PyE.mk rfl (HEq.out) (H1.out.done HU9.out)
end
end Go.Proofs.Qxb6500887aGreat
