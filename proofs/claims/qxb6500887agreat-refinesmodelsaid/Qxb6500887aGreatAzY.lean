/- fieldsSound, links, Usage, Audit (written by tools/mk_azy.py). -/
import Derived.Test.Qxb6500887aGreatAzX
namespace Go.Proofs.Qxb6500887aGreat
open Go.RowKit
set_option linter.unusedSimpArgs false
set_option linter.unusedVariables false

section
variable {l : AL} {S : AS} {w w' w0 : World} {p q : Nat} {cs : List Value} {o : Ob}
set_option maxRecDepth 100000 in
set_option maxHeartbeats 2000000 in
theorem fieldsSoundZ (h : AM l S w) (ho : ObOk o) : Calls Tryz.prog 264 #[.agg #[.pointer (some ⟨l.a, 0, none⟩), .int .i64 (o.k : Int), .int .u64 (o.raw : Int), .int .i64 (o.sz : Int), .int .i64 (o.rf : Int)]] w fun e w' => ∃ b : Bool, e = .returned (.bool b) ∧ Hid (Below w.heap.size w w') := by
  obtain ⟨p, hp⟩ : ∃ p, w.heap.size = p := ⟨_, rfl⟩
  have HX : Hid (OX w l S p (obL l o) (w.alloc (.cells #[.pointer (some ⟨l.a, 0, none⟩), .int .i64 (o.k : Int), .int .u64 (o.raw : Int), .int .i64 (o.sz : Int), .int .i64 (o.rf : Int)] 61))) := hid (OX.new (cs := (obL l o)) h (Below.refl _ w) hp)
  have HA := hid h
  have o2 := ho.s2
  have o3 := ho.rf
  have o4 := ho.k
  obtain ⟨n, hn⟩ : ∃ n, o.rf = n := ⟨_, rfl⟩
  obtain ⟨f, hf⟩ : ∃ f, o.k + 1 = f := ⟨_, rfl⟩
  have ef : (o.k : Int) + 1 = (f : Int) := by omega
  have Hn := hid hn
  rw [hn] at o3
  have hkb : f + n ≤ 32768 := by omega
  have d1 : ¬ (32768 = f) := by have := ho.s1; omega
  have e1 : f + n - f = n := by omega
  clear h ho hn hf
  go_enter Tryz.func264, Tryz.ntmps264
  go_upto_region 1 with fail
  (try simp only [hp])
  generalize hw1 : w.alloc _ = w1 at HX ⊢
  clear hw1 hp
  have p0 := HX.out.bk.cell 0
  have p1 := HX.out.bk.cell 1
  have p2 := HX.out.bk.cell 2
  have p3 := HX.out.bk.cell 3
  have p4 := HX.out.bk.cell 4
  simp only [obL, List.getElem?_cons_zero, List.getElem?_cons_succ] at p0 p1 p2 p3 p4
  rw [Hn.out] at p4
  have a0 := HX.out.am.cells.1
  go_upto_region 2 with fail
  go_region
  go_wp2_with fail
  simp only [e1]
  have HB0 : Hid (Below w.heap.size w w1.drew) := hid (HX.out.below (Drew.below ⟨1, rfl⟩ _)).bel
  clear a0 p0 p1 p2 p3 p4 HX
  go_loopw [24] (fun u wr => ∃ q : Nat, u = .int .i64 (q : Int) ∧ q ≤ n ∧ Hid (Below w.heap.size w wr)) (fun u _ => n - (intOf u).toNat)
  case atStart => exact ⟨0, rfl, Nat.zero_le _, HB0⟩
  case round =>
  clear HB0
  obtain ⟨q, rfl, hq, HK⟩ := hrel
  by_cases hqn : q < n
  rotate_left
  · as_aux_lemma =>
    have dq : decide ((q : Int) < (n : Int)) = false := decide_eq_false (by omega)
    go_wp2
    go_ret
    exact ⟨true, rfl, HK⟩
  as_aux_lemma =>
  have dq : decide ((q : Int) < (n : Int)) = true := decide_eq_true (by omega)
  have cw := (HA.out.below HK.out).word (i := f + q) (by omega)
  have HCk := hid (fun wz => checkRefZ ((S.W (f + q) : Nat) : Int) wz)
  generalize S.W (f + q) = x at *
  by_cases hr : rfOk (x : Int)
  rotate_left
  · as_aux_lemma =>
    rw [if_neg hr, if_neg hr] at HCk
    clear hr
    (go_wp2_with fail; refine (HCk.out wr).mono ?_; rintro e_ w_ ⟨he_, hw_⟩; subst he_; have hs_ := hw_.symm; clear hw_; subst hs_)
    go_wp2
    go_ret
    exact ⟨false, rfl, HK⟩
  · as_aux_lemma =>
    rw [if_pos hr, if_pos hr] at HCk
    clear hr
    (go_wp2_with fail; refine (HCk.out wr).mono ?_; rintro e_ w_ ⟨he_, hw_⟩; subst he_; have hs_ := hw_.symm; clear hw_; subst hs_)
    go_wp2
    exact ⟨⟨q + 1, by go_num, by omega, HK⟩, by simp [intOf]; omega⟩
set_option maxRecDepth 100000 in
set_option maxHeartbeats 8000000 in
theorem usageZ (h : AM l S w) : Calls Tryz.prog 237 #[.pointer (some ⟨l.a, 0, none⟩)] w fun e w' => ∃ xs : List Int, xs.length = 8 ∧ e = .returned (.agg (xs.map inV).toArray) ∧ Hid (Below w.heap.size w w') := by
  have I0 := hid info_us
  obtain ⟨r, hr⟩ : ∃ r, w.heap.size = r := ⟨_, rfl⟩
  have H0 : Hid (RG l S w [(r, 34, 8)] [] (w.alloc (.cells #[.int .i64 0, .int .i64 0, .int .i64 0, .int .i64 0, .int .i64 0, .int .i64 0, .int .i64 0, .int .i64 0] 34))) := hid ((RG.start h).newI hr 34 [0, 0, 0, 0, 0, 0, 0, 0])
  clear h
  go_enter Tryz.func237, Tryz.ntmps237
  go_upto_region 1 with fail
  (try simp only [hr])
  generalize hw1 : w.alloc _ = w1 at H0 ⊢
  clear hw1 hr
  obtain ⟨u, hu⟩ : ∃ u, w1.heap.size = u := ⟨_, rfl⟩
  have H1 : Hid (RG l S w [(u, 34, 8), (r, 34, 8)] [] (w1.alloc (.cells #[.int .i64 0, .int .i64 0, .int .i64 0, .int .i64 0, .int .i64 0, .int .i64 0, .int .i64 0, .int .i64 0] 34))) := hid (H0.out.newI hu 34 [0, 0, 0, 0, 0, 0, 0, 0])
  go_upto_region 2 with fail
  (try simp only [hu])
  generalize hw2 : w1.alloc _ = w2 at H1 ⊢
  clear hw2 hu H0
  go_upto_region 3 with fail
  go_loopw [4] (fun v wr => ∃ b : Nat, v = .int .i64 (b : Int) ∧ b ≤ 64 ∧ Hid (RG l S w [(u, 34, 8), (r, 34, 8)] [] wr)) (fun v _ => 64 - (intOf v).toNat)
  case atStart => exact ⟨0, rfl, by omega, H1⟩
  case round =>
  clear H1
  obtain ⟨b, rfl, hb, HK⟩ := hrel
  by_cases hbn : b < 64
  rotate_left
  · as_aux_lemma =>
    have dq : decide ((b : Int) < 64) = false := decide_eq_false (by omega)
    go_upto_region 14 with fail
    have k1 := HK.out.am.cells.2.1
    have HN := hid (HK.out.am.tc.countNonzero 0 16384 (by omega) (by omega))
    go_wp2_with fail
    refine HN.out.mono ?_
    rintro e w3 ⟨c1, rfl, hc1, HB1⟩
    have HR1 := hid (HK.out.below HB1.out)
    clear HN HB1 HK k1
    obtain ⟨⟨x_, cx_⟩, zx_⟩ := HR1.out.icell (i := 4) (show (u, 34, 8) ∈ _ by simp) (by decide)
    go_upto_region 15 with fail
    have HP_ := hid (fun y => HR1.out.put (show (u, 34, 8) ∈ _ by simp) 4 y)
    generalize hz_ : World.setCell _ (⟨u, 4, none⟩ : Addr) _ = w_HR2
    have HR2 : Hid (RG l S w [(u, 34, 8), (r, 34, 8)] [] w_HR2) := hid (by rw [← hz_]; exact HP_.out _)
    clear hz_ HP_ cx_ zx_ HR1
    have k1 := HR2.out.am.cells.2.1
    have HN := hid (HR2.out.am.tc.countEqual 0 16384 3 (by omega) (by omega) (by decide))
    go_wp2_with fail
    refine HN.out.mono ?_
    rintro e w3b ⟨c2, rfl, hc2, HB2⟩
    have HR3 := hid (HR2.out.below HB2.out)
    clear HN HB2 HR2 k1
    obtain ⟨⟨x_, cx_⟩, zx_⟩ := HR3.out.icell (i := 5) (show (u, 34, 8) ∈ _ by simp) (by decide)
    go_upto_region 16 with fail
    have HP_ := hid (fun y => HR3.out.put (show (u, 34, 8) ∈ _ by simp) 5 y)
    generalize hz_ : World.setCell _ (⟨u, 5, none⟩ : Addr) _ = w_HR4
    have HR4 : Hid (RG l S w [(u, 34, 8), (r, 34, 8)] [] w_HR4) := hid (by rw [← hz_]; exact HP_.out _)
    clear hz_ HP_ cx_ zx_ HR3
    have k1 := HR4.out.am.cells.2.2.1
    have HN := hid (HR4.out.am.tm.countNonzero 0 16384 (by omega) (by omega))
    go_wp2_with fail
    refine HN.out.mono ?_
    rintro e w3c ⟨c3, rfl, hc3, HB3⟩
    have HR5 := hid (HR4.out.below HB3.out)
    clear HN HB3 HR4 k1
    obtain ⟨⟨x_, cx_⟩, zx_⟩ := HR5.out.icell (i := 6) (show (u, 34, 8) ∈ _ by simp) (by decide)
    go_upto_region 17 with fail
    have HP_ := hid (fun y => HR5.out.put (show (u, 34, 8) ∈ _ by simp) 6 y)
    generalize hz_ : World.setCell _ (⟨u, 6, none⟩ : Addr) _ = w_HR6
    have HR6 : Hid (RG l S w [(u, 34, 8), (r, 34, 8)] [] w_HR6) := hid (by rw [← hz_]; exact HP_.out _)
    clear hz_ HP_ cx_ zx_ HR5
    have k1 := HR6.out.am.cells.2.2.2.1
    have HN := hid (HR6.out.am.tl.countNonzero 0 32768 (by omega) (by omega))
    go_wp2_with fail
    refine HN.out.mono ?_
    rintro e w3d ⟨c4, rfl, hc4, HB4⟩
    have HR7 := hid (HR6.out.below HB4.out)
    clear HN HB4 HR6 k1
    obtain ⟨⟨x_, cx_⟩, zx_⟩ := HR7.out.icell (i := 7) (show (u, 34, 8) ∈ _ by simp) (by decide)
    go_upto_region 18 with fail
    have HP_ := hid (fun y => HR7.out.put (show (u, 34, 8) ∈ _ by simp) 7 y)
    generalize hz_ : World.setCell _ (⟨u, 7, none⟩ : Addr) _ = w_HR8
    have HR8 : Hid (RG l S w [(u, 34, 8), (r, 34, 8)] [] w_HR8) := hid (by rw [← hz_]; exact HP_.out _)
    clear hz_ HP_ cx_ zx_ HR7
    have HGi := hid (HR8.out.ints (u, 34, 8) (by simp))
    have HRi := hid (HR8.out.ints (r, 34, 8) (by simp))
    obtain ⟨xs, hl, hbx⟩ := HGi.out
    obtain ⟨ys, hl2, hby⟩ := HRi.out
    have Hx := hid hbx
    have Hy := hid hby
    have Hl := hid (show (xs.map inV).length = 8 by rw [List.length_map]; exact hl)
    have Hl2 := hid (show (ys.map inV).length = 8 by rw [List.length_map]; exact hl2)
    have Hone := hid (inV_one xs)
    have Hxs := hid hl
    clear hbx hby hl hl2 HGi HRi
    generalize hcs : xs.map inV = cs_ at *
    have Hcs := hid hcs
    clear hcs
    go_wp2_with (first | (refine wpList_load_blk rfl 34 _ rfl u rfl cs_ Hx.out _ Tryz.underlying34 rfl (by rw [Hl.out]; exact info_us) ?_) | (refine wpList_store_blk rfl 34 _ _ rfl r rfl cs_ rfl Hy.out (by rw [Hl.out, Hl2.out]) (by rw [Hl.out]; exact info_us) Hone.out ?_; intro w9 HB9 HU9))
    refine bodyPost_ret (results_blk (cs := cs_) Tryz.results237 rfl (by rw [Hl.out]; exact agg_us) HB9.out) rfl ?_
    exact ⟨xs, Hxs.out, by rw [Hcs.out], hid (HR8.out.bel.trans (HU9.out.below (HR8.out.lo (r, 34, 8) (by simp)) HR8.out.bel.size))⟩
  as_aux_lemma =>
  have dq : decide ((b : Int) < 64) = true := decide_eq_true (by omega)
  have HF := hid (freeLinesZ HK.out.am (b : Int))
  have HCl := hid (fun wz => classOfZ (flV S (b : Int)) wz)
  have hcl := clV_cases (flV S (b : Int))
  generalize clV (flV S (b : Int)) = k at *
  generalize flV S (b : Int) = z at *
  generalize blC (b : Int) = cc at *
  go_wp2_with fail
  refine HF.out.mono ?_
  rintro e w3 ⟨rfl, HB⟩
  have HR1 := hid (HK.out.below HB.out.1)
  clear HF HB HK
  obtain ⟨⟨x_, cx_⟩, zx_⟩ := HR1.out.icell (i := 0) (show (u, 34, 8) ∈ _ by simp) (by decide)
  go_upto_region 7 with fail
  have HP_ := hid (fun y => HR1.out.put (show (u, 34, 8) ∈ _ by simp) 0 y)
  generalize hz_ : World.setCell _ (⟨u, 0, none⟩ : Addr) _ = w_HR2
  have HR2 : Hid (RG l S w [(u, 34, 8), (r, 34, 8)] [] w_HR2) := hid (by rw [← hz_]; exact HP_.out _)
  clear hz_ HP_ cx_ zx_ HR1
  (go_wp2_with fail; refine (HCl.out w_HR2).mono ?_; rintro e_ w_ ⟨he_, hw_⟩; subst he_; have hs_ := hw_.symm; clear hw_; subst hs_)
  rcases hcl with rfl | rfl | rfl
  · as_aux_lemma =>
    obtain ⟨⟨x_, cx_⟩, zx_⟩ := HR2.out.icell (i := 1) (show (u, 34, 8) ∈ _ by simp) (by decide)
    go_upto_region 4 with fail
    have HP_ := hid (fun y => HR2.out.put (show (u, 34, 8) ∈ _ by simp) 1 y)
    generalize hz_ : World.setCell _ (⟨u, 1, none⟩ : Addr) _ = w_HR3
    have HR3 : Hid (RG l S w [(u, 34, 8), (r, 34, 8)] [] w_HR3) := hid (by rw [← hz_]; exact HP_.out _)
    clear hz_ HP_ cx_ zx_ HR2
    go_wp2
    exact ⟨⟨b + 1, by go_num, by omega, HR3⟩, by simp [intOf]; omega⟩
  · as_aux_lemma =>
    obtain ⟨⟨x_, cx_⟩, zx_⟩ := HR2.out.icell (i := 2) (show (u, 34, 8) ∈ _ by simp) (by decide)
    go_upto_region 4 with fail
    have HP_ := hid (fun y => HR2.out.put (show (u, 34, 8) ∈ _ by simp) 2 y)
    generalize hz_ : World.setCell _ (⟨u, 2, none⟩ : Addr) _ = w_HR3
    have HR3 : Hid (RG l S w [(u, 34, 8), (r, 34, 8)] [] w_HR3) := hid (by rw [← hz_]; exact HP_.out _)
    clear hz_ HP_ cx_ zx_ HR2
    go_wp2
    exact ⟨⟨b + 1, by go_num, by omega, HR3⟩, by simp [intOf]; omega⟩
  · as_aux_lemma =>
    obtain ⟨⟨x_, cx_⟩, zx_⟩ := HR2.out.icell (i := 3) (show (u, 34, 8) ∈ _ by simp) (by decide)
    go_upto_region 4 with fail
    have HP_ := hid (fun y => HR2.out.put (show (u, 34, 8) ∈ _ by simp) 3 y)
    generalize hz_ : World.setCell _ (⟨u, 3, none⟩ : Addr) _ = w_HR3
    have HR3 : Hid (RG l S w [(u, 34, 8), (r, 34, 8)] [] w_HR3) := hid (by rw [← hz_]; exact HP_.out _)
    clear hz_ HP_ cx_ zx_ HR2
    go_wp2
    exact ⟨⟨b + 1, by go_num, by omega, HR3⟩, by simp [intOf]; omega⟩
end
end Go.Proofs.Qxb6500887aGreat
