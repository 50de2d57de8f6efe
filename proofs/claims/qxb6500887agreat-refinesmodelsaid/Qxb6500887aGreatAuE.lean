/- The way of a step from play on, exactly (written by tools/mk_aue.py). -/
import Derived.Test.Qxb6500887aGreatAv8
import Derived.Test.Qxb6500887aGreatAzZl
import Derived.Test.Qxb6500887aGreatAwH
import Derived.Deep.DeepCutAuto
namespace Go.Proofs.Qxb6500887aGreat
open Go.RowKit
set_option linter.unusedSimpArgs false
set_option linter.unusedVariables false
theorem stR_ok (E : ES) (k : Nat) (a b c : Int) : RsOk (stR E k a b c).1 := by
  unfold stR
  split
  all_goals dsimp only
  all_goals with_reducible first | exact RsOk.c _ _ _ | exact RsOk.g _ _ _ | exact rk_izR _ _ _ | exact rk_ldRefE _ _ _ | exact rk_owE _ _ | exact rk_clR _ _ _ | exact rk_lhR _ _ | exact rk_fhR _ _ _ _ | exact rk_deR _ | exact rk_szR _ | exact rk_efR _ _ _ | exact rk_fbR _ _ _ | exact rk_noR _ _ _ | exact rk_btR _ _ _ _ | exact rk_elR _ _ _ _ | exact rk_nlR _ _ _ | exact rk_ecR _ _ _ | exact rk_refAtE _ _ | exact rk_encE _ _ | exact rk_decE _ | exact rk_headE _ _ | exact rk_hsdE _ _ | exact rk_tallyE _ _ | exact rk_flnE _ _ | exact rk_clsE _ _ | exact rk_ssR _ _ _ _ | exact rk_scanE _ _ | exact rk_us _ | exact rk_au _ | exact rk_li _ | exact rk_ce _ | exact rk_tx _ | exact rk_bi _ _ | exact rk_bm _ _
/-- A step, exactly: the model's answer, and an arena that agrees with the model after it. -/
def PlE (l : AL) (S : AS) (w : World) (k : Nat) (a b c : Int) (e : Ending) (w' : World) : Prop := ∃ rs S', e = .returned (.agg rs.toArray) ∧ Hid (RsOk rs ∧ AU l w S' w' ∧ (rs = (stR (abE S) k a b c).1 ∧ Agr (stR (abE S) k a b c).2 (abE S')))
theorem PlE.mk {l : AL} {S S' : AS} {w w' : World} {k : Nat} {a b c : Int} {e : Ending} {rs : List Value} (he : e = .returned (.agg rs.toArray)) (h1 : RsOk rs) (h2 : AU l w S' w') (h3 : rs = (stR (abE S) k a b c).1 ∧ Agr (stR (abE S) k a b c).2 (abE S')) : PlE l S w k a b c e w' := ⟨rs, S', he, hid ⟨h1, h2, h3⟩⟩
section
variable {l : AL} {S S' : AS} {w w' w0 : World} {k : Nat} {a b c : Int}
theorem PyE.pe {e : Ending} (h : PyE l S w (stR (abE S) k a b c).1 e w') (h2 : (stR (abE S) k a b c).2 = abE S) : PlE l S w k a b c e w' := PlE.mk h.1 (stR_ok _ _ _ _ _) h.2.out ⟨rfl, by rw [h2]; exact Agr.refl _⟩
theorem PyP.pe {e : Ending} (hS : SOk S) (hb : U64 b) (h : PyP l S w k a b c e w') {r : Int × Int × AS} (h2 : plW S k a b c = some r) : PlE l S w k a b c e w' := by
  obtain ⟨rs, S1, he, H⟩ := h
  obtain ⟨h3, h4, h5⟩ := H.out
  obtain ⟨e1, e2⟩ := h5.1 r h2
  obtain ⟨l1, l2⟩ := plW_law hS hb h2
  exact PlE.mk he h3 h4 ⟨by rw [e1]; exact l1, by rw [e2]; exact l2⟩
set_option maxRecDepth 100000 in
set_option maxHeartbeats 8000000 in
theorem pxRestL (h : AM l S w) (k : Nat) (hk : k ∉ [28, 29, 30, 31, 32, 33, 48, 49, 34, 35, 50, 40, 41, 59, 61, 60, 55, 56, 58, 57, 62, 63]) (a b c : Int) (hp1 : stR (abE S) k a b c = (rsC 11 0 0, abE S)) : Calls Tryz.prog 189 #[.pointer (some ⟨l.a, 0, none⟩), .agg #[.int .u8 (k : Int), .int .u64 a, .int .u64 b, .int .u64 c]] w (PlE l S w k a b c) := by
  have I0 := hid info_rs
  obtain ⟨p, hp⟩ : ∃ p, w.heap.size = p := ⟨_, rfl⟩
  obtain ⟨r, hr⟩ : ∃ r, p + 1 = r := ⟨_, rfl⟩
  have H0 : Hid (PX l S w p r [.int .u8 (k : Int), .int .u64 a, .int .u64 b, .int .u64 c] ((w.alloc (.cells #[.int .u8 (k : Int), .int .u64 a, .int .u64 b, .int .u64 c] 31)).alloc (.cells #[.int .u8 0, .int .u64 0, .int .u64 0, .string { data := #[] }, .int .i64 0, .int .i64 0, .int .i64 0, .int .i64 0, .int .i64 0, .int .i64 0, .int .i64 0, .int .i64 0, .int .i64 0, .int .i64 0, .int .i64 0, .int .i64 0, .int .i64 0, .int .i64 0, .int .i64 0, .int .i64 0, .int .u8 0, .int .i64 0, .int .i64 0, .int .i64 0, .int .i64 0, .int .i64 0, .int .i64 0, .int .i64 0, .int .i64 0, .int .i64 0, .int .i64 0, .int .i64 0, .int .i64 0, .int .i64 0, .int .i64 0] 46))) := hid (PX.start h hp hr)
  simp only [List.mem_cons, List.not_mem_nil, or_false, not_or] at hk
  obtain ⟨n28, n29, n30, n31, n32, n33, n48, n49, n34, n35, n50, n40, n41, n59, n61, n60, n55, n56, n58, n57, n62, n63⟩ := hk
  have d28 : ((k : Int) == 28) = false := by simp; omega
  have d29 : ((k : Int) == 29) = false := by simp; omega
  have d30 : ((k : Int) == 30) = false := by simp; omega
  have d31 : ((k : Int) == 31) = false := by simp; omega
  have d32 : ((k : Int) == 32) = false := by simp; omega
  have d33 : ((k : Int) == 33) = false := by simp; omega
  have d48 : ((k : Int) == 48) = false := by simp; omega
  have d49 : ((k : Int) == 49) = false := by simp; omega
  have d34 : ((k : Int) == 34) = false := by simp; omega
  have d35 : ((k : Int) == 35) = false := by simp; omega
  have d50 : ((k : Int) == 50) = false := by simp; omega
  have d40 : ((k : Int) == 40) = false := by simp; omega
  have d41 : ((k : Int) == 41) = false := by simp; omega
  have d59 : ((k : Int) == 59) = false := by simp; omega
  have d61 : ((k : Int) == 61) = false := by simp; omega
  have d60 : ((k : Int) == 60) = false := by simp; omega
  have d55 : ((k : Int) == 55) = false := by simp; omega
  have d56 : ((k : Int) == 56) = false := by simp; omega
  have d58 : ((k : Int) == 58) = false := by simp; omega
  have d57 : ((k : Int) == 57) = false := by simp; omega
  have d62 : ((k : Int) == 62) = false := by simp; omega
  have d63 : ((k : Int) == 63) = false := by simp; omega
  clear h n28 n29 n30 n31 n32 n33 n48 n49 n34 n35 n50 n40 n41 n59 n61 n60 n55 n56 n58 n57 n62 n63
  have HP1 : Hid (rsC 11 0 0 = (stR (abE S) k a b c).1 ∧ Agr (stR (abE S) k a b c).2 (abE S)) := hid (by rw [hp1]; exact ⟨rfl, Agr.refl _⟩)
  clear hp1
  go_enter Tryz.func189, Tryz.ntmps189
  go_upto_region 1 with fail
  (try simp only [World.size_alloc, hp, hr])
  generalize hw1 : World.alloc (w.alloc _) _ = w1 at H0 ⊢
  clear hw1 hp hr
  obtain ⟨c0, c1, c2, c3⟩ := H0.out.cells
  have HC := hid (H0.out.bel (refuse_walk 11 w1))
  go_wp2_with fail
  refine HC.out.mono ?_
  rintro e w2 ⟨rfl, H1⟩
  clear HC H0 c0 c1 c2 c3
  obtain ⟨c0, c1, c2, c3⟩ := H1.out.cells
  clear c0 c1 c2 c3
  go_wp2_with (refine wpList_store_blk rfl 46 _ _ rfl r rfl (rsC 11 0 0) rfl H1.out.rb (by first | rfl | (rw [show (rsC 11 0 0).length = 35 from rfl]; rfl)) (by first | exact I0.out | (rw [show (rsC 11 0 0).length = 35 from rfl]; exact I0.out)) (rsC_one _ _ _) ?_; intro w9 HB9 HU9)
  refine bodyPost_ret (results_blk (cs := rsC 11 0 0) Tryz.results189 rfl (by first | exact agg_rs | (rw [show (rsC 11 0 0).length = 35 from rfl]; exact agg_rs)) HB9.out) rfl ?_
  exact PlE.mk rfl (RsOk.c _ _ _) (H1.out.done HU9.out) HP1.out
set_option maxRecDepth 100000 in
set_option maxHeartbeats 8000000 in
theorem pxRestO (h : AM l S w) (k : Nat) (hk : k ∉ [15, 44, 45, 46, 47, 36, 37, 38, 39, 64, 65, 66, 51, 52]) (a b c : Int) (HO : ∀ wz, AM l S wz → Calls Tryz.prog 189 #[.pointer (some ⟨l.a, 0, none⟩), .agg #[.int .u8 (k : Int), .int .u64 a, .int .u64 b, .int .u64 c]] wz (PlE l S wz k a b c)) : Calls Tryz.prog 86 #[.pointer (some ⟨l.a, 0, none⟩), .agg #[.int .u8 (k : Int), .int .u64 a, .int .u64 b, .int .u64 c]] w (PlE l S w k a b c) := by
  have I0 := hid info_rs
  obtain ⟨p, hp⟩ : ∃ p, w.heap.size = p := ⟨_, rfl⟩
  obtain ⟨r, hr⟩ : ∃ r, p + 1 = r := ⟨_, rfl⟩
  have H0 : Hid (PX l S w p r [.int .u8 (k : Int), .int .u64 a, .int .u64 b, .int .u64 c] ((w.alloc (.cells #[.int .u8 (k : Int), .int .u64 a, .int .u64 b, .int .u64 c] 31)).alloc (.cells #[.int .u8 0, .int .u64 0, .int .u64 0, .string { data := #[] }, .int .i64 0, .int .i64 0, .int .i64 0, .int .i64 0, .int .i64 0, .int .i64 0, .int .i64 0, .int .i64 0, .int .i64 0, .int .i64 0, .int .i64 0, .int .i64 0, .int .i64 0, .int .i64 0, .int .i64 0, .int .i64 0, .int .u8 0, .int .i64 0, .int .i64 0, .int .i64 0, .int .i64 0, .int .i64 0, .int .i64 0, .int .i64 0, .int .i64 0, .int .i64 0, .int .i64 0, .int .i64 0, .int .i64 0, .int .i64 0, .int .i64 0] 46))) := hid (PX.start h hp hr)
  simp only [List.mem_cons, List.not_mem_nil, or_false, not_or] at hk
  obtain ⟨n15, n44, n45, n46, n47, n36, n37, n38, n39, n64, n65, n66, n51, n52⟩ := hk
  have d15 : ((k : Int) == 15) = false := by simp; omega
  have d44 : ((k : Int) == 44) = false := by simp; omega
  have d45 : ((k : Int) == 45) = false := by simp; omega
  have d46 : ((k : Int) == 46) = false := by simp; omega
  have d47 : ((k : Int) == 47) = false := by simp; omega
  have d36 : ((k : Int) == 36) = false := by simp; omega
  have d37 : ((k : Int) == 37) = false := by simp; omega
  have d38 : ((k : Int) == 38) = false := by simp; omega
  have d39 : ((k : Int) == 39) = false := by simp; omega
  have d64 : ((k : Int) == 64) = false := by simp; omega
  have d65 : ((k : Int) == 65) = false := by simp; omega
  have d66 : ((k : Int) == 66) = false := by simp; omega
  have d51 : ((k : Int) == 51) = false := by simp; omega
  have d52 : ((k : Int) == 52) = false := by simp; omega
  clear h n15 n44 n45 n46 n47 n36 n37 n38 n39 n64 n65 n66 n51 n52
  have HOk := hid HO
  clear HO
  go_enter Tryz.func86, Tryz.ntmps86
  go_upto_region 1 with fail
  (try simp only [World.size_alloc, hp, hr])
  generalize hw1 : World.alloc (w.alloc _) _ = w1 at H0 ⊢
  clear hw1 hp hr
  obtain ⟨c0, c1, c2, c3⟩ := H0.out.cells
  have HC := hid (HOk.out w1 H0.out.am)
  go_wp2_with fail
  refine HC.out.mono ?_
  rintro e w2 ⟨rs, S1, rfl, HR⟩
  have H1 := hid (H0.out.step HR.out.2.1)
  clear HC H0 c0 c1 c2 c3
  obtain ⟨c0, c1, c2, c3⟩ := H1.out.cells
  clear c0 c1 c2 c3
  go_wp2_with (refine wpList_store_blk rfl 46 _ _ rfl r rfl (rs) rfl H1.out.rb (by first | rfl | (rw [HR.out.1.len]; rfl)) (by first | exact I0.out | (rw [HR.out.1.len]; exact I0.out)) (HR.out.1.one) ?_; intro w9 HB9 HU9)
  refine bodyPost_ret (results_blk (cs := rs) Tryz.results86 rfl (by first | exact agg_rs | (rw [HR.out.1.len]; exact agg_rs)) HB9.out) rfl ?_
  exact PlE.mk rfl (HR.out.1) (H1.out.done HU9.out) (HR.out.2.2)
set_option maxRecDepth 100000 in
set_option maxHeartbeats 8000000 in
theorem pxRest (h : AM l S w) (k : Nat) (hk : k ∉ [0, 1, 2, 3, 42, 43, 4, 5, 6, 7, 8, 9, 10, 11, 12, 13, 14, 16, 17, 23, 24, 25, 26, 27, 18, 19, 20, 21, 22, 53, 54]) (a b c : Int) (HO : ∀ wz, AM l S wz → Calls Tryz.prog 86 #[.pointer (some ⟨l.a, 0, none⟩), .agg #[.int .u8 (k : Int), .int .u64 a, .int .u64 b, .int .u64 c]] wz (PlE l S wz k a b c)) : Calls Tryz.prog 13 #[.pointer (some ⟨l.a, 0, none⟩), .agg #[.int .u8 (k : Int), .int .u64 a, .int .u64 b, .int .u64 c]] w (PlE l S w k a b c) := by
  have I0 := hid info_rs
  obtain ⟨p, hp⟩ : ∃ p, w.heap.size = p := ⟨_, rfl⟩
  obtain ⟨r, hr⟩ : ∃ r, p + 1 = r := ⟨_, rfl⟩
  have H0 : Hid (PX l S w p r [.int .u8 (k : Int), .int .u64 a, .int .u64 b, .int .u64 c] ((w.alloc (.cells #[.int .u8 (k : Int), .int .u64 a, .int .u64 b, .int .u64 c] 31)).alloc (.cells #[.int .u8 0, .int .u64 0, .int .u64 0, .string { data := #[] }, .int .i64 0, .int .i64 0, .int .i64 0, .int .i64 0, .int .i64 0, .int .i64 0, .int .i64 0, .int .i64 0, .int .i64 0, .int .i64 0, .int .i64 0, .int .i64 0, .int .i64 0, .int .i64 0, .int .i64 0, .int .i64 0, .int .u8 0, .int .i64 0, .int .i64 0, .int .i64 0, .int .i64 0, .int .i64 0, .int .i64 0, .int .i64 0, .int .i64 0, .int .i64 0, .int .i64 0, .int .i64 0, .int .i64 0, .int .i64 0, .int .i64 0] 46))) := hid (PX.start h hp hr)
  simp only [List.mem_cons, List.not_mem_nil, or_false, not_or] at hk
  obtain ⟨n0, n1, n2, n3, n42, n43, n4, n5, n6, n7, n8, n9, n10, n11, n12, n13, n14, n16, n17, n23, n24, n25, n26, n27, n18, n19, n20, n21, n22, n53, n54⟩ := hk
  have d0 : ((k : Int) == 0) = false := by simp; omega
  have d1 : ((k : Int) == 1) = false := by simp; omega
  have d2 : ((k : Int) == 2) = false := by simp; omega
  have d3 : ((k : Int) == 3) = false := by simp; omega
  have d42 : ((k : Int) == 42) = false := by simp; omega
  have d43 : ((k : Int) == 43) = false := by simp; omega
  have d4 : ((k : Int) == 4) = false := by simp; omega
  have d5 : ((k : Int) == 5) = false := by simp; omega
  have d6 : ((k : Int) == 6) = false := by simp; omega
  have d7 : ((k : Int) == 7) = false := by simp; omega
  have d8 : ((k : Int) == 8) = false := by simp; omega
  have d9 : ((k : Int) == 9) = false := by simp; omega
  have d10 : ((k : Int) == 10) = false := by simp; omega
  have d11 : ((k : Int) == 11) = false := by simp; omega
  have d12 : ((k : Int) == 12) = false := by simp; omega
  have d13 : ((k : Int) == 13) = false := by simp; omega
  have d14 : ((k : Int) == 14) = false := by simp; omega
  have d16 : ((k : Int) == 16) = false := by simp; omega
  have d17 : ((k : Int) == 17) = false := by simp; omega
  have d23 : ((k : Int) == 23) = false := by simp; omega
  have d24 : ((k : Int) == 24) = false := by simp; omega
  have d25 : ((k : Int) == 25) = false := by simp; omega
  have d26 : ((k : Int) == 26) = false := by simp; omega
  have d27 : ((k : Int) == 27) = false := by simp; omega
  have d18 : ((k : Int) == 18) = false := by simp; omega
  have d19 : ((k : Int) == 19) = false := by simp; omega
  have d20 : ((k : Int) == 20) = false := by simp; omega
  have d21 : ((k : Int) == 21) = false := by simp; omega
  have d22 : ((k : Int) == 22) = false := by simp; omega
  have d53 : ((k : Int) == 53) = false := by simp; omega
  have d54 : ((k : Int) == 54) = false := by simp; omega
  clear h n0 n1 n2 n3 n42 n43 n4 n5 n6 n7 n8 n9 n10 n11 n12 n13 n14 n16 n17 n23 n24 n25 n26 n27 n18 n19 n20 n21 n22 n53 n54
  have HOk := hid HO
  clear HO
  go_enter Tryz.func13, Tryz.ntmps13
  go_upto_region 1 with fail
  (try simp only [World.size_alloc, hp, hr])
  generalize hw1 : World.alloc (w.alloc _) _ = w1 at H0 ⊢
  clear hw1 hp hr
  obtain ⟨c0, c1, c2, c3⟩ := H0.out.cells
  have HC := hid (HOk.out w1 H0.out.am)
  go_wp2_with fail
  refine HC.out.mono ?_
  rintro e w2 ⟨rs, S1, rfl, HR⟩
  have H1 := hid (H0.out.step HR.out.2.1)
  clear HC H0 c0 c1 c2 c3
  obtain ⟨c0, c1, c2, c3⟩ := H1.out.cells
  clear c0 c1 c2 c3
  go_wp2_with (refine wpList_store_blk rfl 46 _ _ rfl r rfl (rs) rfl H1.out.rb (by first | rfl | (rw [HR.out.1.len]; rfl)) (by first | exact I0.out | (rw [HR.out.1.len]; exact I0.out)) (HR.out.1.one) ?_; intro w9 HB9 HU9)
  refine bodyPost_ret (results_blk (cs := rs) Tryz.results13 rfl (by first | exact agg_rs | (rw [HR.out.1.len]; exact agg_rs)) HB9.out) rfl ?_
  exact PlE.mk rfl (HR.out.1) (H1.out.done HU9.out) (HR.out.2.2)
end
end Go.Proofs.Qxb6500887aGreat
