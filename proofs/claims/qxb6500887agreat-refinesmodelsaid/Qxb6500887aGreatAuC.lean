/- Reading steps with their answers (written by tools/mk_au.py). -/
import Derived.Test.Qxb6500887aGreatAtB
import Derived.Deep.DeepCutAuto
namespace Go.Proofs.Qxb6500887aGreat
open Go.RowKit
set_option linter.unusedSimpArgs false
set_option linter.unusedVariables false
section
variable {l : AL} {S S' : AS} {w w' w0 : World}
set_option maxRecDepth 100000 in
set_option maxHeartbeats 8000000 in
theorem px60 (h : AM l S w) (a b c : Int) (ha : U64 a) (hb : U64 b) (hc : U64 c) : Calls Tryz.prog 189 #[.pointer (some ⟨l.a, 0, none⟩), .agg #[.int .u8 60, .int .u64 a, .int .u64 b, .int .u64 c]] w (PyE l S w (stR (abE S) 60 a b c).1) := by
  have I0 := hid info_rs
  obtain ⟨p, hp⟩ : ∃ p, w.heap.size = p := ⟨_, rfl⟩
  obtain ⟨r, hr⟩ : ∃ r, p + 1 = r := ⟨_, rfl⟩
  have H0 : Hid (PX l S w p r [.int .u8 60, .int .u64 a, .int .u64 b, .int .u64 c] ((w.alloc (.cells #[.int .u8 60, .int .u64 a, .int .u64 b, .int .u64 c] 31)).alloc (.cells #[.int .u8 0, .int .u64 0, .int .u64 0, .string { data := #[] }, .int .i64 0, .int .i64 0, .int .i64 0, .int .i64 0, .int .i64 0, .int .i64 0, .int .i64 0, .int .i64 0, .int .i64 0, .int .i64 0, .int .i64 0, .int .i64 0, .int .i64 0, .int .i64 0, .int .i64 0, .int .i64 0, .int .u8 0, .int .i64 0, .int .i64 0, .int .i64 0, .int .i64 0, .int .i64 0, .int .i64 0, .int .i64 0, .int .i64 0, .int .i64 0, .int .i64 0, .int .i64 0, .int .i64 0, .int .i64 0, .int .i64 0] 46))) := hid (PX.start h hp hr)
  obtain ⟨na, hna⟩ : ∃ n, nbI a = n := ⟨_, rfl⟩
  have HNna : Hid (∀ wz, Calls Tryz.prog 26 #[.int .u64 a] wz fun e w' => e = .returned (.int .i64 na) ∧ w' = wz) := hid (fun wz => by
    have := number_walk a ha wz
    rw [show wrap64 a = na from hna] at this
    exact this)
  have HK := hid (fun wz (hz : AM l S wz) => blockInfoX hz na)
  have I1 := hid info_bi
  have Hna_ := hid hna
  clear h hna
  go_enter Tryz.func189, Tryz.ntmps189
  go_upto_region 1 with fail
  (try simp only [World.size_alloc, hp, hr])
  generalize hw1 : World.alloc (w.alloc _) _ = w1 at H0 ⊢
  clear hw1 hp hr
  obtain ⟨c0, c1, c2, c3⟩ := H0.out.cells
  have HC := hid (H0.out.pure (HNna.out w1))
  go_wp2_with fail
  refine HC.out.mono ?_
  rintro e w2 ⟨rfl, H1⟩
  clear HC H0 c0 c1 c2 c3
  obtain ⟨c0, c1, c2, c3⟩ := H1.out.cells
  have HC := hid (HK.out w2 H1.out.am)
  go_wp2_with fail
  refine HC.out.mono ?_
  rintro e w3 ⟨bk, xs, cd, hl_, rfl, hb_⟩
  have H2 := hid (H1.out.below hb_.out.2)
  have HXs := hid hb_.out.1
  clear hb_
  obtain ⟨x0, x1, x2, x3, x4, x5, hxs_⟩ := len6 hl_
  subst hxs_
  clear hl_
  have HEq : Hid (rsOf { data := #[] } cd [0, 0, 0, 0, 0, 0, 0, 0] [0, 0, 0, 0, 0] [0, 0, 0] bk [x0, x1, x2, x3, x4, x5] [0, 0, 0, 0, 0, 0, 0, 0] = (stR (abE S) 60 a b c).1) := hid (rd60 Hna_.out HXs.out)
  clear HXs Hna_
  simp only [biL, List.map_cons, List.map_nil, inV]
  clear HC H1 c0 c1 c2 c3
  obtain ⟨c0, c1, c2, c3⟩ := H2.out.cells
  obtain ⟨q, hq⟩ : ∃ q, w3.heap.size = q := ⟨_, rfl⟩
  have HQ : Hid (PX l S w p r [.int .u8 60, .int .u64 a, .int .u64 b, .int .u64 c] (w3.alloc (.cells #[.int .u8 bk, .int .i64 x0, .int .i64 x1, .int .i64 x2, .int .i64 x3, .int .i64 x4, .int .i64 x5] 41)) ∧ Blk (w3.alloc (.cells #[.int .u8 bk, .int .i64 x0, .int .i64 x1, .int .i64 x2, .int .i64 x3, .int .i64 x4, .int .i64 x5] 41)) q 41 [.int .u8 bk, .int .i64 x0, .int .i64 x1, .int .i64 x2, .int .i64 x3, .int .i64 x4, .int .i64 x5]) := hid (by
    have kk := Blk.new w3 [.int .u8 bk, .int .i64 x0, .int .i64 x1, .int .i64 x2, .int .i64 x3, .int .i64 x4, .int .i64 x5] 41
    rw [hq] at kk
    exact ⟨H2.out.below (nbel _ _), kk⟩)
  go_upto_region 43 with fail
  (try simp only [hq])
  generalize hwq : w3.alloc _ = wq at HQ ⊢
  clear hwq hq H2 c0 c1 c2 c3
  have q0 := HQ.out.2.cell 0
  have q1 := HQ.out.2.cell 1
  have q2 := HQ.out.2.cell 2
  have q3 := HQ.out.2.cell 3
  have q4 := HQ.out.2.cell 4
  have q5 := HQ.out.2.cell 5
  have q6 := HQ.out.2.cell 6
  simp only [List.getElem?_cons_zero, List.getElem?_cons_succ] at q0 q1 q2 q3 q4 q5 q6
  have H9 := hid HQ.out.1
  obtain ⟨c0, c1, c2, c3⟩ := H9.out.cells
  clear c0 c1 c2 c3
  go_wp2_with (refine wpList_store_blk rfl 46 _ _ rfl r rfl (rsOf { data := #[] } cd [0, 0, 0, 0, 0, 0, 0, 0] [0, 0, 0, 0, 0] [0, 0, 0] bk [x0, x1, x2, x3, x4, x5] [0, 0, 0, 0, 0, 0, 0, 0]) rfl H9.out.rb (by first | rfl | (rw [show (rsOf { data := #[] } cd [0, 0, 0, 0, 0, 0, 0, 0] [0, 0, 0, 0, 0] [0, 0, 0] bk [x0, x1, x2, x3, x4, x5] [0, 0, 0, 0, 0, 0, 0, 0]).length = 35 from rfl]; rfl)) (by first | exact I0.out | (rw [show (rsOf { data := #[] } cd [0, 0, 0, 0, 0, 0, 0, 0] [0, 0, 0, 0, 0] [0, 0, 0] bk [x0, x1, x2, x3, x4, x5] [0, 0, 0, 0, 0, 0, 0, 0]).length = 35 from rfl]; exact I0.out)) (rsOf_one _ _ _ _ _ _ _ _) ?_; intro w9 HB9 HU9)
  refine bodyPost_ret (results_blk (cs := rsOf { data := #[] } cd [0, 0, 0, 0, 0, 0, 0, 0] [0, 0, 0, 0, 0] [0, 0, 0] bk [x0, x1, x2, x3, x4, x5] [0, 0, 0, 0, 0, 0, 0, 0]) Tryz.results189 rfl (by first | exact agg_rs | (rw [show (rsOf { data := #[] } cd [0, 0, 0, 0, 0, 0, 0, 0] [0, 0, 0, 0, 0] [0, 0, 0] bk [x0, x1, x2, x3, x4, x5] [0, 0, 0, 0, 0, 0, 0, 0]).length = 35 from rfl]; exact agg_rs)) HB9.out) rfl ?_
  exact PyE.mk rfl (HEq.out) (H9.out.done HU9.out)
set_option maxRecDepth 100000 in
set_option maxHeartbeats 8000000 in
theorem px55 (h : AM l S w) (a b c : Int) (ha : U64 a) (hb : U64 b) (hc : U64 c) : Calls Tryz.prog 189 #[.pointer (some ⟨l.a, 0, none⟩), .agg #[.int .u8 55, .int .u64 a, .int .u64 b, .int .u64 c]] w (PyE l S w (stR (abE S) 55 a b c).1) := by
  have I0 := hid info_rs
  obtain ⟨p, hp⟩ : ∃ p, w.heap.size = p := ⟨_, rfl⟩
  obtain ⟨r, hr⟩ : ∃ r, p + 1 = r := ⟨_, rfl⟩
  have H0 : Hid (PX l S w p r [.int .u8 55, .int .u64 a, .int .u64 b, .int .u64 c] ((w.alloc (.cells #[.int .u8 55, .int .u64 a, .int .u64 b, .int .u64 c] 31)).alloc (.cells #[.int .u8 0, .int .u64 0, .int .u64 0, .string { data := #[] }, .int .i64 0, .int .i64 0, .int .i64 0, .int .i64 0, .int .i64 0, .int .i64 0, .int .i64 0, .int .i64 0, .int .i64 0, .int .i64 0, .int .i64 0, .int .i64 0, .int .i64 0, .int .i64 0, .int .i64 0, .int .i64 0, .int .u8 0, .int .i64 0, .int .i64 0, .int .i64 0, .int .i64 0, .int .i64 0, .int .i64 0, .int .i64 0, .int .i64 0, .int .i64 0, .int .i64 0, .int .i64 0, .int .i64 0, .int .i64 0, .int .i64 0] 46))) := hid (PX.start h hp hr)
  obtain ⟨na, hna⟩ : ∃ n, nbI a = n := ⟨_, rfl⟩
  have HNna : Hid (∀ wz, Calls Tryz.prog 26 #[.int .u64 a] wz fun e w' => e = .returned (.int .i64 na) ∧ w' = wz) := hid (fun wz => by
    have := number_walk a ha wz
    rw [show wrap64 a = na from hna] at this
    exact this)
  have HK := hid (fun wz (hz : AM l S wz) => blockMapX hz na)
  have Hna_ := hid hna
  clear h hna
  go_enter Tryz.func189, Tryz.ntmps189
  go_upto_region 1 with fail
  (try simp only [World.size_alloc, hp, hr])
  generalize hw1 : World.alloc (w.alloc _) _ = w1 at H0 ⊢
  clear hw1 hp hr
  obtain ⟨c0, c1, c2, c3⟩ := H0.out.cells
  have HC := hid (H0.out.pure (HNna.out w1))
  go_wp2_with fail
  refine HC.out.mono ?_
  rintro e w2 ⟨rfl, H1⟩
  clear HC H0 c0 c1 c2 c3
  obtain ⟨c0, c1, c2, c3⟩ := H1.out.cells
  have HC := hid (HK.out w2 H1.out.am)
  go_wp2_with fail
  refine HC.out.mono ?_
  rintro e w3 ⟨s, cd, rfl, hb_⟩
  have H2 := hid (H1.out.below hb_.out.2)
  have HEq : Hid (rsOf s cd [0, 0, 0, 0, 0, 0, 0, 0] [0, 0, 0, 0, 0] [0, 0, 0] 0 [0, 0, 0, 0, 0, 0] [0, 0, 0, 0, 0, 0, 0, 0] = (stR (abE S) 55 a b c).1) := hid (rd55 Hna_.out hb_.out.1)
  clear hb_ Hna_
  clear HC H1 c0 c1 c2 c3
  obtain ⟨c0, c1, c2, c3⟩ := H2.out.cells
  clear c0 c1 c2 c3
  go_wp2_with (refine wpList_store_blk rfl 46 _ _ rfl r rfl (rsOf s cd [0, 0, 0, 0, 0, 0, 0, 0] [0, 0, 0, 0, 0] [0, 0, 0] 0 [0, 0, 0, 0, 0, 0] [0, 0, 0, 0, 0, 0, 0, 0]) rfl H2.out.rb (by first | rfl | (rw [show (rsOf s cd [0, 0, 0, 0, 0, 0, 0, 0] [0, 0, 0, 0, 0] [0, 0, 0] 0 [0, 0, 0, 0, 0, 0] [0, 0, 0, 0, 0, 0, 0, 0]).length = 35 from rfl]; rfl)) (by first | exact I0.out | (rw [show (rsOf s cd [0, 0, 0, 0, 0, 0, 0, 0] [0, 0, 0, 0, 0] [0, 0, 0] 0 [0, 0, 0, 0, 0, 0] [0, 0, 0, 0, 0, 0, 0, 0]).length = 35 from rfl]; exact I0.out)) (rsOf_one _ _ _ _ _ _ _ _) ?_; intro w9 HB9 HU9)
  refine bodyPost_ret (results_blk (cs := rsOf s cd [0, 0, 0, 0, 0, 0, 0, 0] [0, 0, 0, 0, 0] [0, 0, 0] 0 [0, 0, 0, 0, 0, 0] [0, 0, 0, 0, 0, 0, 0, 0]) Tryz.results189 rfl (by first | exact agg_rs | (rw [show (rsOf s cd [0, 0, 0, 0, 0, 0, 0, 0] [0, 0, 0, 0, 0] [0, 0, 0] 0 [0, 0, 0, 0, 0, 0] [0, 0, 0, 0, 0, 0, 0, 0]).length = 35 from rfl]; exact agg_rs)) HB9.out) rfl ?_
  exact PyE.mk rfl (HEq.out) (H2.out.done HU9.out)
end
end Go.Proofs.Qxb6500887aGreat
