/- Steps of playObjects (written by tools/mk_azzd.py). -/
import Derived.Test.Qxb6500887aGreatAzZd
namespace Go.Proofs.Qxb6500887aGreat
open Go.RowKit
set_option linter.unusedSimpArgs false
set_option linter.unusedVariables false
section
variable {l : AL} {S S' : AS} {w w' w0 : World}
set_option maxRecDepth 100000 in
set_option maxHeartbeats 8000000 in
theorem pl51 (h : AM l S w) (a b c : Int) (ha : U64 a) (hb : U64 b) (hc : U64 c) : Calls Tryz.prog 86 #[.pointer (some ⟨l.a, 0, none⟩), .agg #[.int .u8 51, .int .u64 a, .int .u64 b, .int .u64 c]] w (PyP l S w 51 a b c) := by
  have I0 := hid info_rs
  obtain ⟨p, hp⟩ : ∃ p, w.heap.size = p := ⟨_, rfl⟩
  obtain ⟨r, hr⟩ : ∃ r, p + 1 = r := ⟨_, rfl⟩
  have H0 : Hid (PX l S w p r [.int .u8 51, .int .u64 a, .int .u64 b, .int .u64 c] ((w.alloc (.cells #[.int .u8 51, .int .u64 a, .int .u64 b, .int .u64 c] 31)).alloc (.cells #[.int .u8 0, .int .u64 0, .int .u64 0, .string { data := #[] }, .int .i64 0, .int .i64 0, .int .i64 0, .int .i64 0, .int .i64 0, .int .i64 0, .int .i64 0, .int .i64 0, .int .i64 0, .int .i64 0, .int .i64 0, .int .i64 0, .int .i64 0, .int .i64 0, .int .i64 0, .int .i64 0, .int .u8 0, .int .i64 0, .int .i64 0, .int .i64 0, .int .i64 0, .int .i64 0, .int .i64 0, .int .i64 0, .int .i64 0, .int .i64 0, .int .i64 0, .int .i64 0, .int .i64 0, .int .i64 0, .int .i64 0] 46))) := hid (PX.start h hp hr)
  obtain ⟨na, hna⟩ : ∃ n, nbI a = n := ⟨_, rfl⟩
  have HNna : Hid (∀ wz, Calls Tryz.prog 26 #[.int .u64 a] wz fun e w' => e = .returned (.int .i64 na) ∧ w' = wz) := hid (fun wz => by
    have := number_walk a ha wz
    rw [show wrap64 a = na from hna] at this
    exact this)
  clear h
  go_enter Tryz.func86, Tryz.ntmps86
  go_upto_region 1 with fail
  (try simp only [World.size_alloc, hp, hr])
  generalize hw1 : World.alloc (w.alloc _) _ = w1 at H0 ⊢
  clear hw1 hp hr
  obtain ⟨c0, c1, c2, c3⟩ := H0.out.cells
  clear c0 c1 c2 c3
  obtain ⟨gv, hgv⟩ : ∃ g, w1.heap.size = g := ⟨_, rfl⟩
  obtain ⟨gt, hgt⟩ : ∃ g, gv + 1 = g := ⟨_, rfl⟩
  have H3 : Hid ((CtM l S gv gt p [.int .u8 51, .int .u64 a, .int .u64 b, .int .u64 c] ((w1.alloc (.cells #[.int .u64 0] 29)).alloc (.cells #[.int .u64 0] 29)) ∧ PX l S w p r [.int .u8 51, .int .u64 a, .int .u64 b, .int .u64 c] ((w1.alloc (.cells #[.int .u64 0] 29)).alloc (.cells #[.int .u64 0] 29)) ∧ (∀ g ∈ [gv, gt], w.heap.size ≤ g ∧ g ≠ p ∧ g ≠ r)) ∧ (∀ g ∈ [gv, gt], g < ((w1.alloc (.cells #[.int .u64 0] 29)).alloc (.cells #[.int .u64 0] 29)).heap.size)) := hid (by
    refine ⟨CtM.start H0.out hgv hgt, fun g hg => ?_⟩
    rw [World.size_alloc, World.size_alloc]
    simp only [List.mem_cons, List.not_mem_nil, or_false] at hg
    rcases hg with rfl | rfl <;> omega)
  obtain ⟨c0, c1, c2, c3⟩ := H0.out.cells
  go_upto_region 55 with fail
  (try simp only [World.size_alloc, hgv, hgt])
  generalize hw5 : World.alloc (w1.alloc _) _ = w5 at H3 ⊢
  clear hw5 hgv hgt H0 c0 c1 c2 c3
  obtain ⟨c0, c1, c2, c3⟩ := H3.out.1.2.1.cells
  have HC := hid (HNna.out w5)
  go_wp2_with fail
  refine HC.out.mono ?_
  rintro e_ w_ ⟨he_, hw_⟩
  subst he_
  have hs_ := hw_.symm
  clear hw_ HC
  subst hs_
  have HE : Hid (Calls Tryz.prog 185 #[.pointer (some ⟨l.a, 0, none⟩), .int .i64 na, .func (.func 186) #[] #[.pointer (some ⟨gv, 0, none⟩), .pointer (some ⟨gt, 0, none⟩), .pointer (some ⟨p, 0, none⟩)]] w5 fun e w' => e = .returned (.int .u8 (if 0 ≤ na ∧ na < 64 then (0 : Int) else 1)) ∧ Hid (CtM l S gv gt p [.int .u8 51, .int .u64 a, .int .u64 b, .int .u64 c] w' ∧ UL [gv, gt] w5 w')) := hid (eachCountedZ 186 #[.pointer (some ⟨gv, 0, none⟩), .pointer (some ⟨gt, 0, none⟩), .pointer (some ⟨p, 0, none⟩)] ent_p2 (fun w1 => CtM l S gv gt p [.int .u8 51, .int .u64 a, .int .u64 b, .int .u64 c] w1) [gv, gt] H3.out.2 H3.out.1.1 (fun w1 h1 => h1.am) (fun w1 w2 h1 h2 => h1.below h2) na (fun k v w1 hk hv h1 => clo2 h1 _ _))
  generalize (if 0 ≤ na ∧ na < 64 then (0 : Int) else 1) = cd at *
  go_wp2_with fail
  refine HE.out.mono ?_
  rintro e w6 ⟨rfl, H6⟩
  have H7 := hid (H3.out.1.2.1.ul H6.out.2 H3.out.1.2.2 H6.out.1.am)
  obtain ⟨xv, hxv⟩ := H6.out.1.v
  obtain ⟨xt, hxt⟩ := H6.out.1.t
  have cv := hxv.cell 0
  have ct := hxt.cell 0
  simp only [List.getElem?_cons_zero] at cv ct
  clear hxv hxt H6 H3 HE c0 c1 c2 c3
  obtain ⟨c0, c1, c2, c3⟩ := H7.out.cells
  have HC := hid (H7.out.bel (giveZ xv xt cd w6))
  go_wp2_with fail
  refine HC.out.mono ?_
  rintro e w9 ⟨rfl, H8⟩
  clear HC H7 c0 c1 c2 c3
  obtain ⟨c0, c1, c2, c3⟩ := H8.out.cells
  clear c0 c1 c2 c3
  go_wp2_with (refine wpList_store_blk rfl 46 _ _ rfl r rfl (rsG cd xv xt) rfl H8.out.rb (by first | rfl | (rw [rsG_len]; rfl)) (by first | exact I0.out | (rw [rsG_len]; exact I0.out)) (rsG_one _ _ _) ?_; intro w9 HB9 HU9)
  refine bodyPost_ret (results_blk (cs := rsG cd xv xt) Tryz.results86 rfl (by first | exact agg_rs | (rw [rsG_len]; exact agg_rs)) HB9.out) rfl ?_
  exact PyP.mk rfl (RsOk.g _ _ _) (H8.out.done HU9.out) (PlR.rd rfl (Rd.free (by decide) (by decide)))
end
end Go.Proofs.Qxb6500887aGreat
