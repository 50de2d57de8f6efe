/- Steps of playLines (written by tools/mk_azzl.py). -/
import Derived.Test.Qxb6500887aGreatAzZl
namespace Go.Proofs.Qxb6500887aGreat
open Go.RowKit
set_option linter.unusedSimpArgs false
set_option linter.unusedVariables false
section
variable {l : AL} {S S' : AS} {w w' w0 : World}
theorem wordsForZ (n : Int) (w : World) : Calls Tryz.prog 271 #[.int .i64 n] w fun e w' => e = .returned (.tuple #[.int .i64 (if 1 ≤ n ∧ n ≤ 8192 then 1 + n else 0), .int .u8 (if 1 ≤ n ∧ n ≤ 8192 then 0 else 4)]) ∧ w' = w := by
  by_cases h1 : n < 1
  · rw [if_neg (by omega), if_neg (by omega)]
    have d1 : decide (n < 1) = true := decide_eq_true h1
    go_enter Tryz.func271, Tryz.ntmps271
    go_wp2
    go_ret2
    exact ⟨rfl, rfl⟩
  · have d1 : decide (n < 1) = false := decide_eq_false h1
    by_cases h2 : 8192 < n
    · rw [if_neg (by omega), if_neg (by omega)]
      have d2 : decide (8192 < n) = true := decide_eq_true h2
      go_enter Tryz.func271, Tryz.ntmps271
      go_wp2
      go_ret2
      exact ⟨rfl, rfl⟩
    · rw [if_pos (by omega), if_pos (by omega)]
      have d2 : decide (8192 < n) = false := decide_eq_false h2
      go_enter Tryz.func271, Tryz.ntmps271
      go_wp2
      go_ret2
      exact ⟨rfl, rfl⟩
set_option maxRecDepth 100000 in
set_option maxHeartbeats 8000000 in
theorem playSizesZ (n : Int) (w : World) : Calls Tryz.prog 247 #[.int .i64 n] w fun e w' => ∃ rs, e = .returned (.agg rs.toArray) ∧ Hid (RsOk rs ∧ Below w.heap.size w w') := by
  have I0 := hid info_rs
  obtain ⟨p, hp⟩ : ∃ p, w.heap.size = p := ⟨_, rfl⟩
  have HB : Hid (Below w.heap.size w (w.alloc (.cells #[.int .u8 0, .int .u64 0, .int .u64 0, .string { data := #[] }, .int .i64 0, .int .i64 0, .int .i64 0, .int .i64 0, .int .i64 0, .int .i64 0, .int .i64 0, .int .i64 0, .int .i64 0, .int .i64 0, .int .i64 0, .int .i64 0, .int .i64 0, .int .i64 0, .int .i64 0, .int .i64 0, .int .u8 0, .int .i64 0, .int .i64 0, .int .i64 0, .int .i64 0, .int .i64 0, .int .i64 0, .int .i64 0, .int .i64 0, .int .i64 0, .int .i64 0, .int .i64 0, .int .i64 0, .int .i64 0, .int .i64 0] 46)) ∧ Blk (w.alloc (.cells #[.int .u8 0, .int .u64 0, .int .u64 0, .string { data := #[] }, .int .i64 0, .int .i64 0, .int .i64 0, .int .i64 0, .int .i64 0, .int .i64 0, .int .i64 0, .int .i64 0, .int .i64 0, .int .i64 0, .int .i64 0, .int .i64 0, .int .i64 0, .int .i64 0, .int .i64 0, .int .i64 0, .int .u8 0, .int .i64 0, .int .i64 0, .int .i64 0, .int .i64 0, .int .i64 0, .int .i64 0, .int .i64 0, .int .i64 0, .int .i64 0, .int .i64 0, .int .i64 0, .int .i64 0, .int .i64 0, .int .i64 0] 46)) p 46 (rsC 0 0 0) ∧ w.heap.size ≤ p) := hid (by
    have k := Blk.new w (rsC 0 0 0) 46
    rw [hp] at k
    exact ⟨nbel w _, k, by omega⟩)
  have HW := hid (fun wz => wordsForZ n wz)
  by_cases h1 : 1 ≤ n ∧ n ≤ 8192
  rotate_left
  · as_aux_lemma =>
    rw [if_neg h1, if_neg h1] at HW
    clear h1
    go_enter Tryz.func247, Tryz.ntmps247
    go_upto_region 1 with fail
    (try simp only [hp])
    generalize hw1 : w.alloc _ = w1 at HB ⊢
    clear hw1 hp
    (go_wp2_with fail; refine (HW.out w1).mono ?_; rintro e_ w_ ⟨he_, hw_⟩; subst he_; have hs_ := hw_.symm; clear hw_; subst hs_)
    go_wp2_with fail
    refine (refuse_walk 4 w1).mono ?_
    rintro e w2 ⟨rfl, hb2⟩
    have HB2 : Hid (Below w.heap.size w w2 ∧ Blk w2 p 46 (rsC 0 0 0) ∧ w.heap.size ≤ p) := hid ⟨HB.out.1.trans (hb2.mono HB.out.1.size), HB.out.2.1.below hb2, HB.out.2.2⟩
    clear hb2 HB
    go_wp2_with (refine wpList_store_blk rfl 46 _ _ rfl p rfl (rsC 4 0 0) rfl HB2.out.2.1 rfl I0.out (rsC_one _ _ _) ?_; intro w9 HB9 HU9)
    refine bodyPost_ret (results_blk (cs := rsC 4 0 0) Tryz.results247 rfl agg_rs HB9.out) rfl ?_
    exact ⟨_, rfl, hid ⟨RsOk.c _ _ _, HB2.out.1.trans (HU9.out.below HB2.out.2.2 HB2.out.1.size)⟩⟩
  as_aux_lemma =>
  rw [if_pos h1, if_pos h1] at HW
  have hn1 : 1 ≤ 1 + n := by omega
  have hn2 : 1 + n ≤ 32768 := by omega
  have HL := hid (fun wz => linesFor_in (1 + n) hn1 hn2 wz)
  have HBl := hid (fun wz => blocksFor_in (1 + n) hn1 hn2 wz)
  generalize 1 + n = m at *
  obtain ⟨l1, hl1⟩ : ∃ l1, (m + 15) / 16 = l1 := ⟨_, rfl⟩
  obtain ⟨b1, hb1⟩ : ∃ b1, (m + 511) / 512 = b1 := ⟨_, rfl⟩
  rw [hl1] at HL
  rw [hb1] at HBl
  clear h1 hn1 hn2 hl1 hb1
  go_enter Tryz.func247, Tryz.ntmps247
  go_upto_region 1 with fail
  (try simp only [hp])
  generalize hw1 : w.alloc _ = w1 at HB ⊢
  clear hw1 hp
  (go_wp2_with fail; refine (HW.out w1).mono ?_; rintro e_ w_ ⟨he_, hw_⟩; subst he_; have hs_ := hw_.symm; clear hw_; subst hs_)
  (go_wp2_with fail; refine (HL.out w1).mono ?_; rintro e_ w_ ⟨he_, hw_⟩; subst he_; have hs_ := hw_.symm; clear hw_; subst hs_)
  (go_wp2_with fail; refine (HBl.out w1).mono ?_; rintro e_ w_ ⟨he_, hw_⟩; subst he_; have hs_ := hw_.symm; clear hw_; subst hs_)
  go_wp2_with fail
  refine (giveZ _ _ _ _).mono ?_
  rintro e w2 ⟨rfl, hb2⟩
  have HB2 : Hid (Below w.heap.size w w2 ∧ Blk w2 p 46 (rsC 0 0 0) ∧ w.heap.size ≤ p) := hid ⟨HB.out.1.trans (hb2.mono HB.out.1.size), HB.out.2.1.below hb2, HB.out.2.2⟩
  clear hb2 HB
  generalize hrs : rsG 0 _ _ = rs_
  have HR : Hid (RsOk rs_) := hid (by rw [← hrs]; exact RsOk.g _ _ _)
  clear hrs
  go_wp2_with (refine wpList_store_blk rfl 46 _ _ rfl p rfl rs_ rfl HB2.out.2.1 (by rw [HR.out.len]; rfl) (by rw [HR.out.len]; exact I0.out) HR.out.one ?_; intro w9 HB9 HU9)
  refine bodyPost_ret (results_blk (cs := rs_) Tryz.results247 rfl (by rw [HR.out.len]; exact agg_rs) HB9.out) rfl ?_
  exact ⟨_, rfl, hid ⟨HR.out, HB2.out.1.trans (HU9.out.below HB2.out.2.2 HB2.out.1.size)⟩⟩
set_option maxRecDepth 100000 in
set_option maxHeartbeats 8000000 in
theorem pl63 (h : AM l S w) (a b c : Int) (ha : U64 a) (hb : U64 b) (hc : U64 c) : Calls Tryz.prog 189 #[.pointer (some ⟨l.a, 0, none⟩), .agg #[.int .u8 63, .int .u64 a, .int .u64 b, .int .u64 c]] w (PyP l S w 63 a b c) := by
  have I0 := hid info_rs
  obtain ⟨p, hp⟩ : ∃ p, w.heap.size = p := ⟨_, rfl⟩
  obtain ⟨r, hr⟩ : ∃ r, p + 1 = r := ⟨_, rfl⟩
  have H0 : Hid (PX l S w p r [.int .u8 63, .int .u64 a, .int .u64 b, .int .u64 c] ((w.alloc (.cells #[.int .u8 63, .int .u64 a, .int .u64 b, .int .u64 c] 31)).alloc (.cells #[.int .u8 0, .int .u64 0, .int .u64 0, .string { data := #[] }, .int .i64 0, .int .i64 0, .int .i64 0, .int .i64 0, .int .i64 0, .int .i64 0, .int .i64 0, .int .i64 0, .int .i64 0, .int .i64 0, .int .i64 0, .int .i64 0, .int .i64 0, .int .i64 0, .int .i64 0, .int .i64 0, .int .u8 0, .int .i64 0, .int .i64 0, .int .i64 0, .int .i64 0, .int .i64 0, .int .i64 0, .int .i64 0, .int .i64 0, .int .i64 0, .int .i64 0, .int .i64 0, .int .i64 0, .int .i64 0, .int .i64 0] 46))) := hid (PX.start h hp hr)
  obtain ⟨na, hna⟩ : ∃ n, nbI a = n := ⟨_, rfl⟩
  have HNna : Hid (∀ wz, Calls Tryz.prog 26 #[.int .u64 a] wz fun e w' => e = .returned (.int .i64 na) ∧ w' = wz) := hid (fun wz => by
    have := number_walk a ha wz
    rw [show wrap64 a = na from hna] at this
    exact this)
  have HK := hid (fun wz => playSizesZ na wz)
  clear h hna
  go_enter Tryz.func189, Tryz.ntmps189
  go_upto_region 1 with fail
  (try simp only [World.size_alloc, hp, hr])
  generalize hw1 : World.alloc (w.alloc _) _ = w1 at H0 ⊢
  clear hw1 hp hr
  obtain ⟨c0, c1, c2, c3⟩ := H0.out.cells
  have HC := hid (H0.out.pure (HNna.out w1))
  go_wp2_with fail
  refine HC.out.mono ?_
  rintro e w2 ⟨rfl, H1⟩
  clear HC H0 c0 c1 c2 c3
  obtain ⟨c0, c1, c2, c3⟩ := H1.out.cells
  have HC := hid (HK.out w2)
  go_wp2_with fail
  refine HC.out.mono ?_
  rintro e w3 ⟨rs, rfl, hr_⟩
  have H2 := hid (H1.out.below hr_.out.2)
  have HR := hid hr_.out.1
  clear hr_
  clear HC H1 c0 c1 c2 c3
  obtain ⟨c0, c1, c2, c3⟩ := H2.out.cells
  clear c0 c1 c2 c3
  go_wp2_with (refine wpList_store_blk rfl 46 _ _ rfl r rfl (rs) rfl H2.out.rb (by first | rfl | (rw [HR.out.len]; rfl)) (by first | exact I0.out | (rw [HR.out.len]; exact I0.out)) (HR.out.one) ?_; intro w9 HB9 HU9)
  refine bodyPost_ret (results_blk (cs := rs) Tryz.results189 rfl (by first | exact agg_rs | (rw [HR.out.len]; exact agg_rs)) HB9.out) rfl ?_
  exact PyP.mk rfl (HR.out) (H2.out.done HU9.out) (PlR.rd rfl (Rd.free (by decide) (by decide)))
set_option maxRecDepth 100000 in
set_option maxHeartbeats 8000000 in
theorem plRestL (h : AM l S w) (k : Nat) (hk : k ∉ [28, 29, 30, 31, 32, 33, 48, 49, 34, 35, 50, 40, 41, 59, 61, 60, 55, 56, 58, 57, 62, 63]) (a b c : Int) (hp1 : plW S k a b c = none) (hp2 : k ∉ [0, 3, 42, 18, 46, 62]) (hp3 : k ∉ [7, 9, 10, 11, 13, 15, 44, 45, 47, 16, 23]) : Calls Tryz.prog 189 #[.pointer (some ⟨l.a, 0, none⟩), .agg #[.int .u8 (k : Int), .int .u64 a, .int .u64 b, .int .u64 c]] w (PyP l S w k a b c) := by
  have I0 := hid info_rs
  obtain ⟨p, hp⟩ : ∃ p, w.heap.size = p := ⟨_, rfl⟩
  obtain ⟨r, hr⟩ : ∃ r, p + 1 = r := ⟨_, rfl⟩
  have H0 : Hid (PX l S w p r [.int .u8 (k : Int), .int .u64 a, .int .u64 b, .int .u64 c] ((w.alloc (.cells #[.int .u8 (k : Int), .int .u64 a, .int .u64 b, .int .u64 c] 31)).alloc (.cells #[.int .u8 0, .int .u64 0, .int .u64 0, .string { data := #[] }, .int .i64 0, .int .i64 0, .int .i64 0, .int .i64 0, .int .i64 0, .int .i64 0, .int .i64 0, .int .i64 0, .int .i64 0, .int .i64 0, .int .i64 0, .int .i64 0, .int .i64 0, .int .i64 0, .int .i64 0, .int .i64 0, .int .u8 0, .int .i64 0, .int .i64 0, .int .i64 0, .int .i64 0, .int .i64 0, .int .i64 0, .int .i64 0, .int .i64 0, .int .i64 0, .int .i64 0, .int .i64 0, .int .i64 0, .int .i64 0, .int .i64 0] 46))) := hid (PX.start h hp hr)
  simp only [List.mem_cons, List.not_mem_nil, or_false, not_or] at hk
  obtain ⟨n28, n29, n30, n31, n32, n33, n48, n49, n34, n35, n50, n40, n41, n59, n61, n60, n55, n56, n58, n57, n62, n63⟩ := hk
  have d28 : ((k : Int) == 28) = false := by simp; omega
  have d29 : ((k : Int) == 29) = false := by simp; omega
  have d30 : ((k : Int) == 30) = false := by simp; omega
  have d31 : ((k : Int) == 31) = false := by simp; omega
  have d32 : ((k : Int) == 32) = false := by simp; omega
  have d33 : ((k : Int) == 33) = false := by simp; omega
  have d48 : ((k : Int) == 48) = false := by simp; omega
  have d49 : ((k : Int) == 49) = false := by simp; omega
  have d34 : ((k : Int) == 34) = false := by simp; omega
  have d35 : ((k : Int) == 35) = false := by simp; omega
  have d50 : ((k : Int) == 50) = false := by simp; omega
  have d40 : ((k : Int) == 40) = false := by simp; omega
  have d41 : ((k : Int) == 41) = false := by simp; omega
  have d59 : ((k : Int) == 59) = false := by simp; omega
  have d61 : ((k : Int) == 61) = false := by simp; omega
  have d60 : ((k : Int) == 60) = false := by simp; omega
  have d55 : ((k : Int) == 55) = false := by simp; omega
  have d56 : ((k : Int) == 56) = false := by simp; omega
  have d58 : ((k : Int) == 58) = false := by simp; omega
  have d57 : ((k : Int) == 57) = false := by simp; omega
  have d62 : ((k : Int) == 62) = false := by simp; omega
  have d63 : ((k : Int) == 63) = false := by simp; omega
  clear h n28 n29 n30 n31 n32 n33 n48 n49 n34 n35 n50 n40 n41 n59 n61 n60 n55 n56 n58 n57 n62 n63
  have HP1 := hid (And.intro hp1 (And.intro hp2 hp3))
  clear hp1 hp2 hp3
  go_enter Tryz.func189, Tryz.ntmps189
  go_upto_region 1 with fail
  (try simp only [World.size_alloc, hp, hr])
  generalize hw1 : World.alloc (w.alloc _) _ = w1 at H0 ⊢
  clear hw1 hp hr
  obtain ⟨c0, c1, c2, c3⟩ := H0.out.cells
  have HC := hid (H0.out.bel (refuse_walk 11 w1))
  go_wp2_with fail
  refine HC.out.mono ?_
  rintro e w2 ⟨rfl, H1⟩
  clear HC H0 c0 c1 c2 c3
  obtain ⟨c0, c1, c2, c3⟩ := H1.out.cells
  clear c0 c1 c2 c3
  go_wp2_with (refine wpList_store_blk rfl 46 _ _ rfl r rfl (rsC 11 0 0) rfl H1.out.rb (by first | rfl | (rw [show (rsC 11 0 0).length = 35 from rfl]; rfl)) (by first | exact I0.out | (rw [show (rsC 11 0 0).length = 35 from rfl]; exact I0.out)) (rsC_one _ _ _) ?_; intro w9 HB9 HU9)
  refine bodyPost_ret (results_blk (cs := rsC 11 0 0) Tryz.results189 rfl (by first | exact agg_rs | (rw [show (rsC 11 0 0).length = 35 from rfl]; exact agg_rs)) HB9.out) rfl ?_
  exact PyP.mk rfl (RsOk.c _ _ _) (H1.out.done HU9.out) (PlR.rd HP1.out.1 (Rd.free HP1.out.2.1 HP1.out.2.2))
end
end Go.Proofs.Qxb6500887aGreat
