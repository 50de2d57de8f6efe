/- Reading steps with their answers (written by tools/mk_au.py). -/
import Derived.Test.Qxb6500887aGreatAv8
import Derived.Test.Qxb6500887aGreatAzZq
import Derived.Deep.DeepCutAuto
namespace Go.Proofs.Qxb6500887aGreat
open Go.RowKit
set_option linter.unusedSimpArgs false
set_option linter.unusedVariables false
section
variable {l : AL} {S S' : AS} {w w' w0 : World}
set_option maxRecDepth 100000 in
set_option maxHeartbeats 8000000 in
theorem px62 (h : AM l S w) (a b c : Int) (ha : U64 a) (hb : U64 b) (hc : U64 c) : Calls Tryz.prog 189 #[.pointer (some ⟨l.a, 0, none⟩), .agg #[.int .u8 62, .int .u64 a, .int .u64 b, .int .u64 c]] w (PyE l S w (stR (abE S) 62 a b c).1) := by
  have I0 := hid info_rs
  obtain ⟨p, hp⟩ : ∃ p, w.heap.size = p := ⟨_, rfl⟩
  obtain ⟨r, hr⟩ : ∃ r, p + 1 = r := ⟨_, rfl⟩
  have H0 : Hid (PX l S w p r [.int .u8 62, .int .u64 a, .int .u64 b, .int .u64 c] ((w.alloc (.cells #[.int .u8 62, .int .u64 a, .int .u64 b, .int .u64 c] 31)).alloc (.cells #[.int .u8 0, .int .u64 0, .int .u64 0, .string { data := #[] }, .int .i64 0, .int .i64 0, .int .i64 0, .int .i64 0, .int .i64 0, .int .i64 0, .int .i64 0, .int .i64 0, .int .i64 0, .int .i64 0, .int .i64 0, .int .i64 0, .int .i64 0, .int .i64 0, .int .i64 0, .int .i64 0, .int .u8 0, .int .i64 0, .int .i64 0, .int .i64 0, .int .i64 0, .int .i64 0, .int .i64 0, .int .i64 0, .int .i64 0, .int .i64 0, .int .i64 0, .int .i64 0, .int .i64 0, .int .i64 0, .int .i64 0] 46))) := hid (PX.start h hp hr)
  obtain ⟨p0, p1, p2, p3, p4, cd, HK, HRd, HPp⟩ : ∃ p0 p1 p2 p3 p4 cd : Int, Hid (∀ wz : World, Calls Tryz.prog 246 #[.int .u64 a] wz fun e w' => e = .returned (.tuple #[.agg #[.int .i64 p0, .int .i64 p1, .int .i64 p2, .int .i64 p3, .int .i64 p4], .int .u8 cd]) ∧ Below wz.heap.size wz w') ∧ Hid (¬ InH a → cd = 1) ∧ Hid ((InH a ∧ cd = 0 ∧ p1 = (a - 65536) / 512 ∧ p2 = (a - 65536) / 16 ∧ p3 = (a - 65536) / 16 % 32 ∧ p4 = (a - 65536) % 16) ∨ (¬ InH a ∧ cd = 1)) := by
    by_cases hi : InH a
    · exact ⟨_, _, _, _, _, _, hid (fun wz => decode_ok a hi wz), hid (fun hn => absurd hi hn), hid (.inl ⟨hi, rfl, rfl, rfl, rfl, rfl⟩)⟩
    · exact ⟨_, _, _, _, _, _, hid (fun wz => decode_no a hi wz), hid (fun _ => rfl), hid (.inr ⟨hi, rfl⟩)⟩
  clear h
  go_enter Tryz.func189, Tryz.ntmps189
  go_upto_region 1 with fail
  (try simp only [World.size_alloc, hp, hr])
  generalize hw1 : World.alloc (w.alloc _) _ = w1 at H0 ⊢
  clear hw1 hp hr
  obtain ⟨c0, c1, c2, c3⟩ := H0.out.cells
  have HC := hid (H0.out.bel (HK.out w1))
  go_wp2_with fail
  refine HC.out.mono ?_
  rintro e w2 ⟨rfl, H1⟩
  clear HC H0 c0 c1 c2 c3
  obtain ⟨c0, c1, c2, c3⟩ := H1.out.cells
  obtain ⟨q, hq⟩ : ∃ q, w2.heap.size = q := ⟨_, rfl⟩
  have HQ : Hid (PX l S w p r [.int .u8 62, .int .u64 a, .int .u64 b, .int .u64 c] (w2.alloc (.cells #[.int .i64 p0, .int .i64 p1, .int .i64 p2, .int .i64 p3, .int .i64 p4] 236)) ∧ Blk (w2.alloc (.cells #[.int .i64 p0, .int .i64 p1, .int .i64 p2, .int .i64 p3, .int .i64 p4] 236)) q 236 [.int .i64 p0, .int .i64 p1, .int .i64 p2, .int .i64 p3, .int .i64 p4]) := hid (by
    have kk := Blk.new w2 [.int .i64 p0, .int .i64 p1, .int .i64 p2, .int .i64 p3, .int .i64 p4] 236
    rw [hq] at kk
    exact ⟨H1.out.below (nbel _ _), kk⟩)
  go_upto_region 55 with fail
  (try simp only [hq])
  generalize hwq : w2.alloc _ = wq at HQ ⊢
  clear hwq hq H1 c0 c1 c2 c3
  have q0 := HQ.out.2.cell 0
  have q1 := HQ.out.2.cell 1
  have q2 := HQ.out.2.cell 2
  have q3 := HQ.out.2.cell 3
  have q4 := HQ.out.2.cell 4
  simp only [List.getElem?_cons_zero, List.getElem?_cons_succ] at q0 q1 q2 q3 q4
  have H9 := hid HQ.out.1
  clear HQ
  go_wp2_with fail
  refine (H9.out.bel (giveZ _ _ _ _)).mono ?_
  rintro e wz ⟨rfl, Hz⟩
  clear H9 q0 q1 q2 q3 q4
  generalize hrs : rsG cd _ _ = rs_
  have HR : Hid (RsOk rs_ ∧ (¬ InH a → rs_ = rsC 1 0 0)) := hid (by
    rw [← hrs]
    exact ⟨RsOk.g _ _ _, fun hi => rsG_b1 (HRd.out hi)⟩)
  have HS2 : Hid (rs_ = (stR (abE S) 62 a b c).1) := hid (by rw [← hrs]; exact rd62 HPp.out)
  clear hrs
  go_wp2_with (refine wpList_store_blk rfl 46 _ _ rfl r rfl rs_ rfl Hz.out.rb (by rw [HR.out.1.len]; rfl) (by rw [HR.out.1.len]; exact I0.out) HR.out.1.one ?_; intro w9 HB9 HU9)
  refine bodyPost_ret (results_blk (cs := rs_) Tryz.results189 rfl (by rw [HR.out.1.len]; exact agg_rs) HB9.out) rfl ?_
  exact PyE.mk rfl HS2.out (Hz.out.done HU9.out)
set_option maxRecDepth 100000 in
set_option maxHeartbeats 8000000 in
theorem playSizesX (n : Int) (w : World) : Calls Tryz.prog 247 #[.int .i64 n] w fun e w' => ∃ rs, e = .returned (.agg rs.toArray) ∧ Hid (RsOk rs ∧ rs = szR n ∧ Below w.heap.size w w') := by
  have I0 := hid info_rs
  obtain ⟨p, hp⟩ : ∃ p, w.heap.size = p := ⟨_, rfl⟩
  have HB : Hid (Below w.heap.size w (w.alloc (.cells #[.int .u8 0, .int .u64 0, .int .u64 0, .string { data := #[] }, .int .i64 0, .int .i64 0, .int .i64 0, .int .i64 0, .int .i64 0, .int .i64 0, .int .i64 0, .int .i64 0, .int .i64 0, .int .i64 0, .int .i64 0, .int .i64 0, .int .i64 0, .int .i64 0, .int .i64 0, .int .i64 0, .int .u8 0, .int .i64 0, .int .i64 0, .int .i64 0, .int .i64 0, .int .i64 0, .int .i64 0, .int .i64 0, .int .i64 0, .int .i64 0, .int .i64 0, .int .i64 0, .int .i64 0, .int .i64 0, .int .i64 0] 46)) ∧ Blk (w.alloc (.cells #[.int .u8 0, .int .u64 0, .int .u64 0, .string { data := #[] }, .int .i64 0, .int .i64 0, .int .i64 0, .int .i64 0, .int .i64 0, .int .i64 0, .int .i64 0, .int .i64 0, .int .i64 0, .int .i64 0, .int .i64 0, .int .i64 0, .int .i64 0, .int .i64 0, .int .i64 0, .int .i64 0, .int .u8 0, .int .i64 0, .int .i64 0, .int .i64 0, .int .i64 0, .int .i64 0, .int .i64 0, .int .i64 0, .int .i64 0, .int .i64 0, .int .i64 0, .int .i64 0, .int .i64 0, .int .i64 0, .int .i64 0] 46)) p 46 (rsC 0 0 0) ∧ w.heap.size ≤ p) := hid (by
    have k := Blk.new w (rsC 0 0 0) 46
    rw [hp] at k
    exact ⟨nbel w _, k, by omega⟩)
  have HW := hid (fun wz => wordsForZ n wz)
  by_cases h1 : 1 ≤ n ∧ n ≤ 8192
  rotate_left
  · as_aux_lemma =>
    rw [if_neg h1, if_neg h1] at HW
    have HS : Hid (rsC 4 0 0 = szR n) := hid (by unfold szR; rw [if_pos (by omega)])
    clear h1
    go_enter Tryz.func247, Tryz.ntmps247
    go_upto_region 1 with fail
    (try simp only [hp])
    generalize hw1 : w.alloc _ = w1 at HB ⊢
    clear hw1 hp
    (go_wp2_with fail; refine (HW.out w1).mono ?_; rintro e_ w_ ⟨he_, hw_⟩; subst he_; have hs_ := hw_.symm; clear hw_; subst hs_)
    go_wp2_with fail
    refine (refuse_walk 4 w1).mono ?_
    rintro e w2 ⟨rfl, hb2⟩
    have HB2 : Hid (Below w.heap.size w w2 ∧ Blk w2 p 46 (rsC 0 0 0) ∧ w.heap.size ≤ p) := hid ⟨HB.out.1.trans (hb2.mono HB.out.1.size), HB.out.2.1.below hb2, HB.out.2.2⟩
    clear hb2 HB
    go_wp2_with (refine wpList_store_blk rfl 46 _ _ rfl p rfl (rsC 4 0 0) rfl HB2.out.2.1 rfl I0.out (rsC_one _ _ _) ?_; intro w9 HB9 HU9)
    refine bodyPost_ret (results_blk (cs := rsC 4 0 0) Tryz.results247 rfl agg_rs HB9.out) rfl ?_
    exact ⟨_, rfl, hid ⟨RsOk.c _ _ _, HS.out, HB2.out.1.trans (HU9.out.below HB2.out.2.2 HB2.out.1.size)⟩⟩
  as_aux_lemma =>
  rw [if_pos h1, if_pos h1] at HW
  have hn1 : 1 ≤ 1 + n := by omega
  have hn2 : 1 + n ≤ 32768 := by omega
  have HL := hid (fun wz => linesFor_in (1 + n) hn1 hn2 wz)
  have HBl := hid (fun wz => blocksFor_in (1 + n) hn1 hn2 wz)
  generalize hm : 1 + n = m at *
  obtain ⟨l1, hl1⟩ : ∃ l1, (m + 15) / 16 = l1 := ⟨_, rfl⟩
  obtain ⟨b1, hb1⟩ : ∃ b1, (m + 511) / 512 = b1 := ⟨_, rfl⟩
  rw [hl1] at HL
  rw [hb1] at HBl
  have HS : Hid (rsG 0 (IntKind.u64.wrap m) (IntKind.u64.wrap (wrap64 (wrap64 (l1 * 65536) + b1))) = szR n) := hid (by rw [← hl1, ← hb1, ← hm]; exact rd63 h1)
  clear hn1 hn2 hl1 hb1 hm h1
  go_enter Tryz.func247, Tryz.ntmps247
  go_upto_region 1 with fail
  (try simp only [hp])
  generalize hw1 : w.alloc _ = w1 at HB ⊢
  clear hw1 hp
  (go_wp2_with fail; refine (HW.out w1).mono ?_; rintro e_ w_ ⟨he_, hw_⟩; subst he_; have hs_ := hw_.symm; clear hw_; subst hs_)
  (go_wp2_with fail; refine (HL.out w1).mono ?_; rintro e_ w_ ⟨he_, hw_⟩; subst he_; have hs_ := hw_.symm; clear hw_; subst hs_)
  (go_wp2_with fail; refine (HBl.out w1).mono ?_; rintro e_ w_ ⟨he_, hw_⟩; subst he_; have hs_ := hw_.symm; clear hw_; subst hs_)
  go_wp2_with fail
  refine (giveZ _ _ _ _).mono ?_
  rintro e w2 ⟨rfl, hb2⟩
  have HB2 : Hid (Below w.heap.size w w2 ∧ Blk w2 p 46 (rsC 0 0 0) ∧ w.heap.size ≤ p) := hid ⟨HB.out.1.trans (hb2.mono HB.out.1.size), HB.out.2.1.below hb2, HB.out.2.2⟩
  clear hb2 HB
  generalize hrs : rsG 0 _ _ = rs_
  have HR : Hid (RsOk rs_) := hid (by rw [← hrs]; exact RsOk.g _ _ _)
  have HS2 : Hid (rs_ = szR n) := hid (by rw [← hrs]; exact HS.out)
  clear hrs
  go_wp2_with (refine wpList_store_blk rfl 46 _ _ rfl p rfl rs_ rfl HB2.out.2.1 (by rw [HR.out.len]; rfl) (by rw [HR.out.len]; exact I0.out) HR.out.one ?_; intro w9 HB9 HU9)
  refine bodyPost_ret (results_blk (cs := rs_) Tryz.results247 rfl (by rw [HR.out.len]; exact agg_rs) HB9.out) rfl ?_
  exact ⟨_, rfl, hid ⟨HR.out, HS2.out, HB2.out.1.trans (HU9.out.below HB2.out.2.2 HB2.out.1.size)⟩⟩
set_option maxRecDepth 100000 in
set_option maxHeartbeats 8000000 in
theorem px63 (h : AM l S w) (a b c : Int) (ha : U64 a) (hb : U64 b) (hc : U64 c) : Calls Tryz.prog 189 #[.pointer (some ⟨l.a, 0, none⟩), .agg #[.int .u8 63, .int .u64 a, .int .u64 b, .int .u64 c]] w (PyE l S w (stR (abE S) 63 a b c).1) := by
  have I0 := hid info_rs
  obtain ⟨p, hp⟩ : ∃ p, w.heap.size = p := ⟨_, rfl⟩
  obtain ⟨r, hr⟩ : ∃ r, p + 1 = r := ⟨_, rfl⟩
  have H0 : Hid (PX l S w p r [.int .u8 63, .int .u64 a, .int .u64 b, .int .u64 c] ((w.alloc (.cells #[.int .u8 63, .int .u64 a, .int .u64 b, .int .u64 c] 31)).alloc (.cells #[.int .u8 0, .int .u64 0, .int .u64 0, .string { data := #[] }, .int .i64 0, .int .i64 0, .int .i64 0, .int .i64 0, .int .i64 0, .int .i64 0, .int .i64 0, .int .i64 0, .int .i64 0, .int .i64 0, .int .i64 0, .int .i64 0, .int .i64 0, .int .i64 0, .int .i64 0, .int .i64 0, .int .u8 0, .int .i64 0, .int .i64 0, .int .i64 0, .int .i64 0, .int .i64 0, .int .i64 0, .int .i64 0, .int .i64 0, .int .i64 0, .int .i64 0, .int .i64 0, .int .i64 0, .int .i64 0, .int .i64 0] 46))) := hid (PX.start h hp hr)
  obtain ⟨na, hna⟩ : ∃ n, nbI a = n := ⟨_, rfl⟩
  have HNna : Hid (∀ wz, Calls Tryz.prog 26 #[.int .u64 a] wz fun e w' => e = .returned (.int .i64 na) ∧ w' = wz) := hid (fun wz => by
    have := number_walk a ha wz
    rw [show wrap64 a = na from hna] at this
    exact this)
  have HK := hid (fun wz => playSizesX na wz)
  have Hna_ := hid hna
  clear h hna
  go_enter Tryz.func189, Tryz.ntmps189
  go_upto_region 1 with fail
  (try simp only [World.size_alloc, hp, hr])
  generalize hw1 : World.alloc (w.alloc _) _ = w1 at H0 ⊢
  clear hw1 hp hr
  obtain ⟨c0, c1, c2, c3⟩ := H0.out.cells
  have HC := hid (H0.out.pure (HNna.out w1))
  go_wp2_with fail
  refine HC.out.mono ?_
  rintro e w2 ⟨rfl, H1⟩
  clear HC H0 c0 c1 c2 c3
  obtain ⟨c0, c1, c2, c3⟩ := H1.out.cells
  have HC := hid (HK.out w2)
  go_wp2_with fail
  refine HC.out.mono ?_
  rintro e w3 ⟨rs, rfl, hr_⟩
  have H2 := hid (H1.out.below hr_.out.2.2)
  have HR := hid hr_.out.1
  have HSz : Hid (rs = (stR (abE S) 63 a b c).1) := hid (by rw [hr_.out.2.1]; show szR na = szR (nbI a); rw [Hna_.out])
  clear hr_
  clear HC H1 c0 c1 c2 c3
  obtain ⟨c0, c1, c2, c3⟩ := H2.out.cells
  clear c0 c1 c2 c3
  go_wp2_with (refine wpList_store_blk rfl 46 _ _ rfl r rfl (rs) rfl H2.out.rb (by first | rfl | (rw [HR.out.len]; rfl)) (by first | exact I0.out | (rw [HR.out.len]; exact I0.out)) (HR.out.one) ?_; intro w9 HB9 HU9)
  refine bodyPost_ret (results_blk (cs := rs) Tryz.results189 rfl (by first | exact agg_rs | (rw [HR.out.len]; exact agg_rs)) HB9.out) rfl ?_
  exact PyE.mk rfl (HSz.out) (H2.out.done HU9.out)
end
end Go.Proofs.Qxb6500887aGreat
