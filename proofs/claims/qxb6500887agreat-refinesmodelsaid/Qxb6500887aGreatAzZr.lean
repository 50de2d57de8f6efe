/- Steps of playLines (written by tools/mk_azzl.py). -/
import Derived.Test.Qxb6500887aGreatAzZl
namespace Go.Proofs.Qxb6500887aGreat
open Go.RowKit
set_option linter.unusedSimpArgs false
set_option linter.unusedVariables false
section
variable {l : AL} {S S' : AS} {w w' w0 : World}
set_option maxRecDepth 100000 in
set_option maxHeartbeats 8000000 in
theorem plRestO (h : AM l S w) (k : Nat) (hk : k ∉ [15, 44, 45, 46, 47, 36, 37, 38, 39, 64, 65, 66, 51, 52]) (a b c : Int) (HO : ∀ wz, AM l S wz → Calls Tryz.prog 189 #[.pointer (some ⟨l.a, 0, none⟩), .agg #[.int .u8 (k : Int), .int .u64 a, .int .u64 b, .int .u64 c]] wz (PyP l S wz k a b c)) : Calls Tryz.prog 86 #[.pointer (some ⟨l.a, 0, none⟩), .agg #[.int .u8 (k : Int), .int .u64 a, .int .u64 b, .int .u64 c]] w (PyP l S w k a b c) := by
  have I0 := hid info_rs
  obtain ⟨p, hp⟩ : ∃ p, w.heap.size = p := ⟨_, rfl⟩
  obtain ⟨r, hr⟩ : ∃ r, p + 1 = r := ⟨_, rfl⟩
  have H0 : Hid (PX l S w p r [.int .u8 (k : Int), .int .u64 a, .int .u64 b, .int .u64 c] ((w.alloc (.cells #[.int .u8 (k : Int), .int .u64 a, .int .u64 b, .int .u64 c] 31)).alloc (.cells #[.int .u8 0, .int .u64 0, .int .u64 0, .string { data := #[] }, .int .i64 0, .int .i64 0, .int .i64 0, .int .i64 0, .int .i64 0, .int .i64 0, .int .i64 0, .int .i64 0, .int .i64 0, .int .i64 0, .int .i64 0, .int .i64 0, .int .i64 0, .int .i64 0, .int .i64 0, .int .i64 0, .int .u8 0, .int .i64 0, .int .i64 0, .int .i64 0, .int .i64 0, .int .i64 0, .int .i64 0, .int .i64 0, .int .i64 0, .int .i64 0, .int .i64 0, .int .i64 0, .int .i64 0, .int .i64 0, .int .i64 0] 46))) := hid (PX.start h hp hr)
  simp only [List.mem_cons, List.not_mem_nil, or_false, not_or] at hk
  obtain ⟨n15, n44, n45, n46, n47, n36, n37, n38, n39, n64, n65, n66, n51, n52⟩ := hk
  have d15 : ((k : Int) == 15) = false := by simp; omega
  have d44 : ((k : Int) == 44) = false := by simp; omega
  have d45 : ((k : Int) == 45) = false := by simp; omega
  have d46 : ((k : Int) == 46) = false := by simp; omega
  have d47 : ((k : Int) == 47) = false := by simp; omega
  have d36 : ((k : Int) == 36) = false := by simp; omega
  have d37 : ((k : Int) == 37) = false := by simp; omega
  have d38 : ((k : Int) == 38) = false := by simp; omega
  have d39 : ((k : Int) == 39) = false := by simp; omega
  have d64 : ((k : Int) == 64) = false := by simp; omega
  have d65 : ((k : Int) == 65) = false := by simp; omega
  have d66 : ((k : Int) == 66) = false := by simp; omega
  have d51 : ((k : Int) == 51) = false := by simp; omega
  have d52 : ((k : Int) == 52) = false := by simp; omega
  clear h n15 n44 n45 n46 n47 n36 n37 n38 n39 n64 n65 n66 n51 n52
  have HOk := hid HO
  clear HO
  go_enter Tryz.func86, Tryz.ntmps86
  go_upto_region 1 with fail
  (try simp only [World.size_alloc, hp, hr])
  generalize hw1 : World.alloc (w.alloc _) _ = w1 at H0 ⊢
  clear hw1 hp hr
  obtain ⟨c0, c1, c2, c3⟩ := H0.out.cells
  have HC := hid (HOk.out w1 H0.out.am)
  go_wp2_with fail
  refine HC.out.mono ?_
  rintro e w2 ⟨rs, S1, rfl, HR⟩
  have H1 := hid (H0.out.step HR.out.2.1)
  clear HC H0 c0 c1 c2 c3
  obtain ⟨c0, c1, c2, c3⟩ := H1.out.cells
  clear c0 c1 c2 c3
  go_wp2_with (refine wpList_store_blk rfl 46 _ _ rfl r rfl (rs) rfl H1.out.rb (by first | rfl | (rw [HR.out.1.len]; rfl)) (by first | exact I0.out | (rw [HR.out.1.len]; exact I0.out)) (HR.out.1.one) ?_; intro w9 HB9 HU9)
  refine bodyPost_ret (results_blk (cs := rs) Tryz.results86 rfl (by first | exact agg_rs | (rw [HR.out.1.len]; exact agg_rs)) HB9.out) rfl ?_
  exact PyP.mk rfl (HR.out.1) (H1.out.done HU9.out) (HR.out.2.2)
set_option maxRecDepth 100000 in
set_option maxHeartbeats 8000000 in
theorem plRest (h : AM l S w) (k : Nat) (hk : k ∉ [0, 1, 2, 3, 42, 43, 4, 5, 6, 7, 8, 9, 10, 11, 12, 13, 14, 16, 17, 23, 24, 25, 26, 27, 18, 19, 20, 21, 22, 53, 54]) (a b c : Int) (HO : ∀ wz, AM l S wz → Calls Tryz.prog 86 #[.pointer (some ⟨l.a, 0, none⟩), .agg #[.int .u8 (k : Int), .int .u64 a, .int .u64 b, .int .u64 c]] wz (PyP l S wz k a b c)) : Calls Tryz.prog 13 #[.pointer (some ⟨l.a, 0, none⟩), .agg #[.int .u8 (k : Int), .int .u64 a, .int .u64 b, .int .u64 c]] w (PyP l S w k a b c) := by
  have I0 := hid info_rs
  obtain ⟨p, hp⟩ : ∃ p, w.heap.size = p := ⟨_, rfl⟩
  obtain ⟨r, hr⟩ : ∃ r, p + 1 = r := ⟨_, rfl⟩
  have H0 : Hid (PX l S w p r [.int .u8 (k : Int), .int .u64 a, .int .u64 b, .int .u64 c] ((w.alloc (.cells #[.int .u8 (k : Int), .int .u64 a, .int .u64 b, .int .u64 c] 31)).alloc (.cells #[.int .u8 0, .int .u64 0, .int .u64 0, .string { data := #[] }, .int .i64 0, .int .i64 0, .int .i64 0, .int .i64 0, .int .i64 0, .int .i64 0, .int .i64 0, .int .i64 0, .int .i64 0, .int .i64 0, .int .i64 0, .int .i64 0, .int .i64 0, .int .i64 0, .int .i64 0, .int .i64 0, .int .u8 0, .int .i64 0, .int .i64 0, .int .i64 0, .int .i64 0, .int .i64 0, .int .i64 0, .int .i64 0, .int .i64 0, .int .i64 0, .int .i64 0, .int .i64 0, .int .i64 0, .int .i64 0, .int .i64 0] 46))) := hid (PX.start h hp hr)
  simp only [List.mem_cons, List.not_mem_nil, or_false, not_or] at hk
  obtain ⟨n0, n1, n2, n3, n42, n43, n4, n5, n6, n7, n8, n9, n10, n11, n12, n13, n14, n16, n17, n23, n24, n25, n26, n27, n18, n19, n20, n21, n22, n53, n54⟩ := hk
  have d0 : ((k : Int) == 0) = false := by simp; omega
  have d1 : ((k : Int) == 1) = false := by simp; omega
  have d2 : ((k : Int) == 2) = false := by simp; omega
  have d3 : ((k : Int) == 3) = false := by simp; omega
  have d42 : ((k : Int) == 42) = false := by simp; omega
  have d43 : ((k : Int) == 43) = false := by simp; omega
  have d4 : ((k : Int) == 4) = false := by simp; omega
  have d5 : ((k : Int) == 5) = false := by simp; omega
  have d6 : ((k : Int) == 6) = false := by simp; omega
  have d7 : ((k : Int) == 7) = false := by simp; omega
  have d8 : ((k : Int) == 8) = false := by simp; omega
  have d9 : ((k : Int) == 9) = false := by simp; omega
  have d10 : ((k : Int) == 10) = false := by simp; omega
  have d11 : ((k : Int) == 11) = false := by simp; omega
  have d12 : ((k : Int) == 12) = false := by simp; omega
  have d13 : ((k : Int) == 13) = false := by simp; omega
  have d14 : ((k : Int) == 14) = false := by simp; omega
  have d16 : ((k : Int) == 16) = false := by simp; omega
  have d17 : ((k : Int) == 17) = false := by simp; omega
  have d23 : ((k : Int) == 23) = false := by simp; omega
  have d24 : ((k : Int) == 24) = false := by simp; omega
  have d25 : ((k : Int) == 25) = false := by simp; omega
  have d26 : ((k : Int) == 26) = false := by simp; omega
  have d27 : ((k : Int) == 27) = false := by simp; omega
  have d18 : ((k : Int) == 18) = false := by simp; omega
  have d19 : ((k : Int) == 19) = false := by simp; omega
  have d20 : ((k : Int) == 20) = false := by simp; omega
  have d21 : ((k : Int) == 21) = false := by simp; omega
  have d22 : ((k : Int) == 22) = false := by simp; omega
  have d53 : ((k : Int) == 53) = false := by simp; omega
  have d54 : ((k : Int) == 54) = false := by simp; omega
  clear h n0 n1 n2 n3 n42 n43 n4 n5 n6 n7 n8 n9 n10 n11 n12 n13 n14 n16 n17 n23 n24 n25 n26 n27 n18 n19 n20 n21 n22 n53 n54
  have HOk := hid HO
  clear HO
  go_enter Tryz.func13, Tryz.ntmps13
  go_upto_region 1 with fail
  (try simp only [World.size_alloc, hp, hr])
  generalize hw1 : World.alloc (w.alloc _) _ = w1 at H0 ⊢
  clear hw1 hp hr
  obtain ⟨c0, c1, c2, c3⟩ := H0.out.cells
  have HC := hid (HOk.out w1 H0.out.am)
  go_wp2_with fail
  refine HC.out.mono ?_
  rintro e w2 ⟨rs, S1, rfl, HR⟩
  have H1 := hid (H0.out.step HR.out.2.1)
  clear HC H0 c0 c1 c2 c3
  obtain ⟨c0, c1, c2, c3⟩ := H1.out.cells
  clear c0 c1 c2 c3
  go_wp2_with (refine wpList_store_blk rfl 46 _ _ rfl r rfl (rs) rfl H1.out.rb (by first | rfl | (rw [HR.out.1.len]; rfl)) (by first | exact I0.out | (rw [HR.out.1.len]; exact I0.out)) (HR.out.1.one) ?_; intro w9 HB9 HU9)
  refine bodyPost_ret (results_blk (cs := rs) Tryz.results13 rfl (by first | exact agg_rs | (rw [HR.out.1.len]; exact agg_rs)) HB9.out) rfl ?_
  exact PyP.mk rfl (HR.out.1) (H1.out.done HU9.out) (HR.out.2.2)
end
end Go.Proofs.Qxb6500887aGreat
