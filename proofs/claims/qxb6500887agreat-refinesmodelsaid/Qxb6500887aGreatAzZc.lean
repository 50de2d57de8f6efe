/- Steps of play: readers, drawn regions (written by tools/mk_azzc.py). -/
import Derived.Test.Qxb6500887aGreatAzZb
namespace Go.Proofs.Qxb6500887aGreat
open Go.RowKit
set_option linter.unusedSimpArgs false
set_option linter.unusedVariables false
section
variable {l : AL} {S S' : AS} {w w' w0 : World}
theorem onC_bad {S : AS} {a : Int} (h : wantO a ≠ 0) : onC S a = wantO a := by unfold onC; rw [if_neg h]
theorem wantW_bad {a : Int} (h : ¬ InH a) : wantW a = 1 := by unfold wantW; rw [if_neg h]
theorem rsG_b1 {c v u : Int} (h : c = 1) : rsG c v u = rsC 1 0 0 := by rw [h]; exact rsG_bad (by decide)
set_option maxRecDepth 100000 in
set_option maxHeartbeats 8000000 in
theorem pl0 (h : AM l S w) (a b c : Int) (ha : U64 a) (hb : U64 b) (hc : U64 c) : Calls Tryz.prog 13 #[.pointer (some ⟨l.a, 0, none⟩), .agg #[.int .u8 0, .int .u64 a, .int .u64 b, .int .u64 c]] w (PyP l S w 0 a b c) := by
  have I0 := hid info_rs
  obtain ⟨p, hp⟩ : ∃ p, w.heap.size = p := ⟨_, rfl⟩
  obtain ⟨r, hr⟩ : ∃ r, p + 1 = r := ⟨_, rfl⟩
  have H0 : Hid (PX l S w p r [.int .u8 0, .int .u64 a, .int .u64 b, .int .u64 c] ((w.alloc (.cells #[.int .u8 0, .int .u64 a, .int .u64 b, .int .u64 c] 31)).alloc (.cells #[.int .u8 0, .int .u64 0, .int .u64 0, .string { data := #[] }, .int .i64 0, .int .i64 0, .int .i64 0, .int .i64 0, .int .i64 0, .int .i64 0, .int .i64 0, .int .i64 0, .int .i64 0, .int .i64 0, .int .i64 0, .int .i64 0, .int .i64 0, .int .i64 0, .int .i64 0, .int .i64 0, .int .u8 0, .int .i64 0, .int .i64 0, .int .i64 0, .int .i64 0, .int .i64 0, .int .i64 0, .int .i64 0, .int .i64 0, .int .i64 0, .int .i64 0, .int .i64 0, .int .i64 0, .int .i64 0, .int .i64 0] 46))) := hid (PX.start h hp hr)
  obtain ⟨v, hv⟩ : ∃ v : Int, (if InH a then ((S.W (wIx a) : Nat) : Int) else 0) = v := ⟨_, rfl⟩
  obtain ⟨cd, hcd⟩ : ∃ cd, wantW a = cd := ⟨_, rfl⟩
  have HRd : Hid (¬ InH a → cd = 1) := hid (fun hi => by rw [← hcd]; exact wantW_bad hi)
  have HK := hid (fun wz (hz : AM l S wz) => (by have := loadZ hz a; rw [hv, hcd] at this; exact this : Calls Tryz.prog 23 #[.pointer (some ⟨l.a, 0, none⟩), .int .u64 a] wz fun e w' => e = .returned (.tuple #[.int .u64 v, .int .u8 cd]) ∧ w' = wz))
  clear hv hcd
  clear h
  go_enter Tryz.func13, Tryz.ntmps13
  go_upto_region 1 with fail
  (try simp only [World.size_alloc, hp, hr])
  generalize hw1 : World.alloc (w.alloc _) _ = w1 at H0 ⊢
  clear hw1 hp hr
  obtain ⟨c0, c1, c2, c3⟩ := H0.out.cells
  have HC := hid (H0.out.pure (HK.out w1 H0.out.am))
  go_wp2_with fail
  refine HC.out.mono ?_
  rintro e w2 ⟨rfl, H1⟩
  clear HC H0 c0 c1 c2 c3
  obtain ⟨c0, c1, c2, c3⟩ := H1.out.cells
  have HC := hid (H1.out.bel (giveZ v 0 cd w2))
  go_wp2_with fail
  refine HC.out.mono ?_
  rintro e w3 ⟨rfl, H2⟩
  clear HC H1 c0 c1 c2 c3
  obtain ⟨c0, c1, c2, c3⟩ := H2.out.cells
  clear c0 c1 c2 c3
  go_wp2_with (refine wpList_store_blk rfl 46 _ _ rfl r rfl (rsG cd v 0) rfl H2.out.rb (by first | rfl | (rw [rsG_len]; rfl)) (by first | exact I0.out | (rw [rsG_len]; exact I0.out)) (rsG_one _ _ _) ?_; intro w9 HB9 HU9)
  refine bodyPost_ret (results_blk (cs := rsG cd v 0) Tryz.results13 rfl (by first | exact agg_rs | (rw [rsG_len]; exact agg_rs)) HB9.out) rfl ?_
  exact PyP.mk rfl (RsOk.g _ _ _) (H2.out.done HU9.out) (PlR.rd rfl (Rd.word (fun h => rsG_b1 (HRd.out h)) (by decide)))
set_option maxRecDepth 100000 in
set_option maxHeartbeats 8000000 in
theorem pl42 (h : AM l S w) (a b c : Int) (ha : U64 a) (hb : U64 b) (hc : U64 c) : Calls Tryz.prog 13 #[.pointer (some ⟨l.a, 0, none⟩), .agg #[.int .u8 42, .int .u64 a, .int .u64 b, .int .u64 c]] w (PyP l S w 42 a b c) := by
  have I0 := hid info_rs
  obtain ⟨p, hp⟩ : ∃ p, w.heap.size = p := ⟨_, rfl⟩
  obtain ⟨r, hr⟩ : ∃ r, p + 1 = r := ⟨_, rfl⟩
  have H0 : Hid (PX l S w p r [.int .u8 42, .int .u64 a, .int .u64 b, .int .u64 c] ((w.alloc (.cells #[.int .u8 42, .int .u64 a, .int .u64 b, .int .u64 c] 31)).alloc (.cells #[.int .u8 0, .int .u64 0, .int .u64 0, .string { data := #[] }, .int .i64 0, .int .i64 0, .int .i64 0, .int .i64 0, .int .i64 0, .int .i64 0, .int .i64 0, .int .i64 0, .int .i64 0, .int .i64 0, .int .i64 0, .int .i64 0, .int .i64 0, .int .i64 0, .int .i64 0, .int .i64 0, .int .u8 0, .int .i64 0, .int .i64 0, .int .i64 0, .int .i64 0, .int .i64 0, .int .i64 0, .int .i64 0, .int .i64 0, .int .i64 0, .int .i64 0, .int .i64 0, .int .i64 0, .int .i64 0, .int .i64 0] 46))) := hid (PX.start h hp hr)
  obtain ⟨R, hR⟩ : ∃ R, refAtA S a = R := ⟨_, rfl⟩
  have HRd : Hid (¬ InH a → R.2 = 1) := hid (fun hi => by rw [← hR]; unfold refAtA; rw [if_neg hi])
  have HK := hid (fun wz (hz : AM l S wz) => (by have := refAtZ hz a; rw [hR] at this; exact this : Calls Tryz.prog 62 #[.pointer (some ⟨l.a, 0, none⟩), .int .u64 a] wz fun e w' => e = .returned (.tuple #[.int .u64 R.1, .int .u8 R.2]) ∧ w' = wz))
  clear hR
  clear h
  go_enter Tryz.func13, Tryz.ntmps13
  go_upto_region 1 with fail
  (try simp only [World.size_alloc, hp, hr])
  generalize hw1 : World.alloc (w.alloc _) _ = w1 at H0 ⊢
  clear hw1 hp hr
  obtain ⟨c0, c1, c2, c3⟩ := H0.out.cells
  have HC := hid (H0.out.pure (HK.out w1 H0.out.am))
  go_wp2_with fail
  refine HC.out.mono ?_
  rintro e w2 ⟨rfl, H1⟩
  clear HC H0 c0 c1 c2 c3
  obtain ⟨c0, c1, c2, c3⟩ := H1.out.cells
  have HC := hid (H1.out.bel (giveZ R.1 0 R.2 w2))
  go_wp2_with fail
  refine HC.out.mono ?_
  rintro e w3 ⟨rfl, H2⟩
  clear HC H1 c0 c1 c2 c3
  obtain ⟨c0, c1, c2, c3⟩ := H2.out.cells
  clear c0 c1 c2 c3
  go_wp2_with (refine wpList_store_blk rfl 46 _ _ rfl r rfl (rsG R.2 R.1 0) rfl H2.out.rb (by first | rfl | (rw [rsG_len]; rfl)) (by first | exact I0.out | (rw [rsG_len]; exact I0.out)) (rsG_one _ _ _) ?_; intro w9 HB9 HU9)
  refine bodyPost_ret (results_blk (cs := rsG R.2 R.1 0) Tryz.results13 rfl (by first | exact agg_rs | (rw [rsG_len]; exact agg_rs)) HB9.out) rfl ?_
  exact PyP.mk rfl (RsOk.g _ _ _) (H2.out.done HU9.out) (PlR.rd rfl (Rd.word (fun h => rsG_b1 (HRd.out h)) (by decide)))
set_option maxRecDepth 100000 in
set_option maxHeartbeats 8000000 in
theorem pl3 (h : AM l S w) (a b c : Int) (ha : U64 a) (hb : U64 b) (hc : U64 c) : Calls Tryz.prog 13 #[.pointer (some ⟨l.a, 0, none⟩), .agg #[.int .u8 3, .int .u64 a, .int .u64 b, .int .u64 c]] w (PyP l S w 3 a b c) := by
  have I0 := hid info_rs
  obtain ⟨p, hp⟩ : ∃ p, w.heap.size = p := ⟨_, rfl⟩
  obtain ⟨r, hr⟩ : ∃ r, p + 1 = r := ⟨_, rfl⟩
  have H0 : Hid (PX l S w p r [.int .u8 3, .int .u64 a, .int .u64 b, .int .u64 c] ((w.alloc (.cells #[.int .u8 3, .int .u64 a, .int .u64 b, .int .u64 c] 31)).alloc (.cells #[.int .u8 0, .int .u64 0, .int .u64 0, .string { data := #[] }, .int .i64 0, .int .i64 0, .int .i64 0, .int .i64 0, .int .i64 0, .int .i64 0, .int .i64 0, .int .i64 0, .int .i64 0, .int .i64 0, .int .i64 0, .int .i64 0, .int .i64 0, .int .i64 0, .int .i64 0, .int .i64 0, .int .u8 0, .int .i64 0, .int .i64 0, .int .i64 0, .int .i64 0, .int .i64 0, .int .i64 0, .int .i64 0, .int .i64 0, .int .i64 0, .int .i64 0, .int .i64 0, .int .i64 0, .int .i64 0, .int .i64 0] 46))) := hid (PX.start h hp hr)
  obtain ⟨nb, hnb⟩ : ∃ n, nbI b = n := ⟨_, rfl⟩
  have HNnb : Hid (∀ wz, Calls Tryz.prog 26 #[.int .u64 b] wz fun e w' => e = .returned (.int .i64 nb) ∧ w' = wz) := hid (fun wz => by
    have := number_walk b hb wz
    rw [show wrap64 b = nb from hnb] at this
    exact this)
  obtain ⟨cd, hcd⟩ : ∃ cd, wrCd a nb = cd := ⟨_, rfl⟩
  have HRd : Hid (¬ InH a → cd = 1) := hid (fun hi => by rw [← hcd]; unfold wrCd; rw [if_neg hi])
  have HK := hid (fun wz (hz : AM l S wz) => (by have := isZeroZ hz a nb; rw [hcd] at this; exact this : Calls Tryz.prog 60 #[.pointer (some ⟨l.a, 0, none⟩), .int .u64 a, .int .i64 nb] wz fun e w' => ∃ z : Bool, e = .returned (.tuple #[.bool z, .int .u8 cd]) ∧ w' = wz))
  clear hcd hnb
  clear h
  go_enter Tryz.func13, Tryz.ntmps13
  go_upto_region 1 with fail
  (try simp only [World.size_alloc, hp, hr])
  generalize hw1 : World.alloc (w.alloc _) _ = w1 at H0 ⊢
  clear hw1 hp hr
  obtain ⟨c0, c1, c2, c3⟩ := H0.out.cells
  have HC := hid (H0.out.pure (HNnb.out w1))
  go_wp2_with fail
  refine HC.out.mono ?_
  rintro e w2 ⟨rfl, H1⟩
  clear HC H0 c0 c1 c2 c3
  obtain ⟨c0, c1, c2, c3⟩ := H1.out.cells
  have HC := hid (HK.out w2 H1.out.am)
  go_wp2_with fail
  refine HC.out.mono ?_
  rintro e w3 ⟨z, rfl, hw_⟩
  have H2 := hid H1.out
  rw [← hw_] at H2
  clear hw_
  clear HC H1 c0 c1 c2 c3
  obtain ⟨c0, c1, c2, c3⟩ := H2.out.cells
  have HC := hid (H2.out.pure (flagZ z w3))
  go_wp2_with fail
  refine HC.out.mono ?_
  rintro e w4 ⟨rfl, H3⟩
  clear HC H2 c0 c1 c2 c3
  obtain ⟨c0, c1, c2, c3⟩ := H3.out.cells
  have HC := hid (H3.out.bel (giveZ ((bitN z : Nat) : Int) 0 cd w4))
  go_wp2_with fail
  refine HC.out.mono ?_
  rintro e w5 ⟨rfl, H4⟩
  clear HC H3 c0 c1 c2 c3
  obtain ⟨c0, c1, c2, c3⟩ := H4.out.cells
  clear c0 c1 c2 c3
  go_wp2_with (refine wpList_store_blk rfl 46 _ _ rfl r rfl (rsG cd ((bitN z : Nat) : Int) 0) rfl H4.out.rb (by first | rfl | (rw [rsG_len]; rfl)) (by first | exact I0.out | (rw [rsG_len]; exact I0.out)) (rsG_one _ _ _) ?_; intro w9 HB9 HU9)
  refine bodyPost_ret (results_blk (cs := rsG cd ((bitN z : Nat) : Int) 0) Tryz.results13 rfl (by first | exact agg_rs | (rw [rsG_len]; exact agg_rs)) HB9.out) rfl ?_
  exact PyP.mk rfl (RsOk.g _ _ _) (H4.out.done HU9.out) (PlR.rd rfl (Rd.word (fun h => rsG_b1 (HRd.out h)) (by decide)))
set_option maxRecDepth 100000 in
set_option maxHeartbeats 8000000 in
theorem pl9 (h : AM l S w) (a b c : Int) (ha : U64 a) (hb : U64 b) (hc : U64 c) : Calls Tryz.prog 13 #[.pointer (some ⟨l.a, 0, none⟩), .agg #[.int .u8 9, .int .u64 a, .int .u64 b, .int .u64 c]] w (PyP l S w 9 a b c) := by
  have I0 := hid info_rs
  obtain ⟨p, hp⟩ : ∃ p, w.heap.size = p := ⟨_, rfl⟩
  obtain ⟨r, hr⟩ : ∃ r, p + 1 = r := ⟨_, rfl⟩
  have H0 : Hid (PX l S w p r [.int .u8 9, .int .u64 a, .int .u64 b, .int .u64 c] ((w.alloc (.cells #[.int .u8 9, .int .u64 a, .int .u64 b, .int .u64 c] 31)).alloc (.cells #[.int .u8 0, .int .u64 0, .int .u64 0, .string { data := #[] }, .int .i64 0, .int .i64 0, .int .i64 0, .int .i64 0, .int .i64 0, .int .i64 0, .int .i64 0, .int .i64 0, .int .i64 0, .int .i64 0, .int .i64 0, .int .i64 0, .int .i64 0, .int .i64 0, .int .i64 0, .int .i64 0, .int .u8 0, .int .i64 0, .int .i64 0, .int .i64 0, .int .i64 0, .int .i64 0, .int .i64 0, .int .i64 0, .int .i64 0, .int .i64 0, .int .i64 0, .int .i64 0, .int .i64 0, .int .i64 0, .int .i64 0] 46))) := hid (PX.start h hp hr)
  obtain ⟨nb, hnb⟩ : ∃ n, nbI b = n := ⟨_, rfl⟩
  have HNnb : Hid (∀ wz, Calls Tryz.prog 26 #[.int .u64 b] wz fun e w' => e = .returned (.int .i64 nb) ∧ w' = wz) := hid (fun wz => by
    have := number_walk b hb wz
    rw [show wrap64 b = nb from hnb] at this
    exact this)
  obtain ⟨R, hR⟩ : ∃ R, arFieldAddrV S a nb = R := ⟨_, rfl⟩
  have HRd : Hid (wantO a ≠ 0 → R.2 = wantO a) := hid (fun hi => by rw [← hR]; unfold arFieldAddrV; rw [if_neg (by rw [onC_bad hi]; exact hi), onC_bad hi])
  have HK := hid (fun wz (hz : AM l S wz) => (by have := arFieldAddrZ hz a nb; rw [hR] at this; exact this : Calls Tryz.prog 69 #[.pointer (some ⟨l.a, 0, none⟩), .int .u64 a, .int .i64 nb] wz fun e w' => e = .returned (.tuple #[.int .u64 R.1, .int .u8 R.2]) ∧ Below wz.heap.size wz w'))
  clear hR hnb
  clear h
  go_enter Tryz.func13, Tryz.ntmps13
  go_upto_region 1 with fail
  (try simp only [World.size_alloc, hp, hr])
  generalize hw1 : World.alloc (w.alloc _) _ = w1 at H0 ⊢
  clear hw1 hp hr
  obtain ⟨c0, c1, c2, c3⟩ := H0.out.cells
  have HC := hid (H0.out.pure (HNnb.out w1))
  go_wp2_with fail
  refine HC.out.mono ?_
  rintro e w2 ⟨rfl, H1⟩
  clear HC H0 c0 c1 c2 c3
  obtain ⟨c0, c1, c2, c3⟩ := H1.out.cells
  have HC := hid (H1.out.bel (HK.out w2 H1.out.am))
  go_wp2_with fail
  refine HC.out.mono ?_
  rintro e w3 ⟨rfl, H2⟩
  clear HC H1 c0 c1 c2 c3
  obtain ⟨c0, c1, c2, c3⟩ := H2.out.cells
  have HC := hid (H2.out.bel (giveZ R.1 0 R.2 w3))
  go_wp2_with fail
  refine HC.out.mono ?_
  rintro e w4 ⟨rfl, H3⟩
  clear HC H2 c0 c1 c2 c3
  obtain ⟨c0, c1, c2, c3⟩ := H3.out.cells
  clear c0 c1 c2 c3
  go_wp2_with (refine wpList_store_blk rfl 46 _ _ rfl r rfl (rsG R.2 R.1 0) rfl H3.out.rb (by first | rfl | (rw [rsG_len]; rfl)) (by first | exact I0.out | (rw [rsG_len]; exact I0.out)) (rsG_one _ _ _) ?_; intro w9 HB9 HU9)
  refine bodyPost_ret (results_blk (cs := rsG R.2 R.1 0) Tryz.results13 rfl (by first | exact agg_rs | (rw [rsG_len]; exact agg_rs)) HB9.out) rfl ?_
  exact PyP.mk rfl (RsOk.g _ _ _) (H3.out.done HU9.out) (PlR.rd rfl (Rd.obj (fun h => by rw [HRd.out h]; exact rsG_bad h) (by decide)))
set_option maxRecDepth 100000 in
set_option maxHeartbeats 8000000 in
theorem pl10 (h : AM l S w) (a b c : Int) (ha : U64 a) (hb : U64 b) (hc : U64 c) : Calls Tryz.prog 13 #[.pointer (some ⟨l.a, 0, none⟩), .agg #[.int .u8 10, .int .u64 a, .int .u64 b, .int .u64 c]] w (PyP l S w 10 a b c) := by
  have I0 := hid info_rs
  obtain ⟨p, hp⟩ : ∃ p, w.heap.size = p := ⟨_, rfl⟩
  obtain ⟨r, hr⟩ : ∃ r, p + 1 = r := ⟨_, rfl⟩
  have H0 : Hid (PX l S w p r [.int .u8 10, .int .u64 a, .int .u64 b, .int .u64 c] ((w.alloc (.cells #[.int .u8 10, .int .u64 a, .int .u64 b, .int .u64 c] 31)).alloc (.cells #[.int .u8 0, .int .u64 0, .int .u64 0, .string { data := #[] }, .int .i64 0, .int .i64 0, .int .i64 0, .int .i64 0, .int .i64 0, .int .i64 0, .int .i64 0, .int .i64 0, .int .i64 0, .int .i64 0, .int .i64 0, .int .i64 0, .int .i64 0, .int .i64 0, .int .i64 0, .int .i64 0, .int .u8 0, .int .i64 0, .int .i64 0, .int .i64 0, .int .i64 0, .int .i64 0, .int .i64 0, .int .i64 0, .int .i64 0, .int .i64 0, .int .i64 0, .int .i64 0, .int .i64 0, .int .i64 0, .int .i64 0] 46))) := hid (PX.start h hp hr)
  obtain ⟨nb, hnb⟩ : ∃ n, nbI b = n := ⟨_, rfl⟩
  have HNnb : Hid (∀ wz, Calls Tryz.prog 26 #[.int .u64 b] wz fun e w' => e = .returned (.int .i64 nb) ∧ w' = wz) := hid (fun wz => by
    have := number_walk b hb wz
    rw [show wrap64 b = nb from hnb] at this
    exact this)
  obtain ⟨R, hR⟩ : ∃ R, arDataAddrV S a nb = R := ⟨_, rfl⟩
  have HRd : Hid (wantO a ≠ 0 → R.2 = wantO a) := hid (fun hi => by rw [← hR]; unfold arDataAddrV; rw [if_neg (by rw [onC_bad hi]; exact hi), onC_bad hi])
  have HK := hid (fun wz (hz : AM l S wz) => (by have := arDataAddrZ hz a nb; rw [hR] at this; exact this : Calls Tryz.prog 70 #[.pointer (some ⟨l.a, 0, none⟩), .int .u64 a, .int .i64 nb] wz fun e w' => e = .returned (.tuple #[.int .u64 R.1, .int .u8 R.2]) ∧ Below wz.heap.size wz w'))
  clear hR hnb
  clear h
  go_enter Tryz.func13, Tryz.ntmps13
  go_upto_region 1 with fail
  (try simp only [World.size_alloc, hp, hr])
  generalize hw1 : World.alloc (w.alloc _) _ = w1 at H0 ⊢
  clear hw1 hp hr
  obtain ⟨c0, c1, c2, c3⟩ := H0.out.cells
  have HC := hid (H0.out.pure (HNnb.out w1))
  go_wp2_with fail
  refine HC.out.mono ?_
  rintro e w2 ⟨rfl, H1⟩
  clear HC H0 c0 c1 c2 c3
  obtain ⟨c0, c1, c2, c3⟩ := H1.out.cells
  have HC := hid (H1.out.bel (HK.out w2 H1.out.am))
  go_wp2_with fail
  refine HC.out.mono ?_
  rintro e w3 ⟨rfl, H2⟩
  clear HC H1 c0 c1 c2 c3
  obtain ⟨c0, c1, c2, c3⟩ := H2.out.cells
  have HC := hid (H2.out.bel (giveZ R.1 0 R.2 w3))
  go_wp2_with fail
  refine HC.out.mono ?_
  rintro e w4 ⟨rfl, H3⟩
  clear HC H2 c0 c1 c2 c3
  obtain ⟨c0, c1, c2, c3⟩ := H3.out.cells
  clear c0 c1 c2 c3
  go_wp2_with (refine wpList_store_blk rfl 46 _ _ rfl r rfl (rsG R.2 R.1 0) rfl H3.out.rb (by first | rfl | (rw [rsG_len]; rfl)) (by first | exact I0.out | (rw [rsG_len]; exact I0.out)) (rsG_one _ _ _) ?_; intro w9 HB9 HU9)
  refine bodyPost_ret (results_blk (cs := rsG R.2 R.1 0) Tryz.results13 rfl (by first | exact agg_rs | (rw [rsG_len]; exact agg_rs)) HB9.out) rfl ?_
  exact PyP.mk rfl (RsOk.g _ _ _) (H3.out.done HU9.out) (PlR.rd rfl (Rd.obj (fun h => by rw [HRd.out h]; exact rsG_bad h) (by decide)))
set_option maxRecDepth 100000 in
set_option maxHeartbeats 8000000 in
theorem pl11 (h : AM l S w) (a b c : Int) (ha : U64 a) (hb : U64 b) (hc : U64 c) : Calls Tryz.prog 13 #[.pointer (some ⟨l.a, 0, none⟩), .agg #[.int .u8 11, .int .u64 a, .int .u64 b, .int .u64 c]] w (PyP l S w 11 a b c) := by
  have I0 := hid info_rs
  obtain ⟨p, hp⟩ : ∃ p, w.heap.size = p := ⟨_, rfl⟩
  obtain ⟨r, hr⟩ : ∃ r, p + 1 = r := ⟨_, rfl⟩
  have H0 : Hid (PX l S w p r [.int .u8 11, .int .u64 a, .int .u64 b, .int .u64 c] ((w.alloc (.cells #[.int .u8 11, .int .u64 a, .int .u64 b, .int .u64 c] 31)).alloc (.cells #[.int .u8 0, .int .u64 0, .int .u64 0, .string { data := #[] }, .int .i64 0, .int .i64 0, .int .i64 0, .int .i64 0, .int .i64 0, .int .i64 0, .int .i64 0, .int .i64 0, .int .i64 0, .int .i64 0, .int .i64 0, .int .i64 0, .int .i64 0, .int .i64 0, .int .i64 0, .int .i64 0, .int .u8 0, .int .i64 0, .int .i64 0, .int .i64 0, .int .i64 0, .int .i64 0, .int .i64 0, .int .i64 0, .int .i64 0, .int .i64 0, .int .i64 0, .int .i64 0, .int .i64 0, .int .i64 0, .int .i64 0] 46))) := hid (PX.start h hp hr)
  obtain ⟨nb, hnb⟩ : ∃ n, nbI b = n := ⟨_, rfl⟩
  have HNnb : Hid (∀ wz, Calls Tryz.prog 26 #[.int .u64 b] wz fun e w' => e = .returned (.int .i64 nb) ∧ w' = wz) := hid (fun wz => by
    have := number_walk b hb wz
    rw [show wrap64 b = nb from hnb] at this
    exact this)
  obtain ⟨R, hR⟩ : ∃ R, arLoadRefV S a nb = R := ⟨_, rfl⟩
  have HRd : Hid (wantO a ≠ 0 → R.2 = wantO a) := hid (fun hi => by rw [← hR]; unfold arLoadRefV; rw [if_neg (by rw [onC_bad hi]; exact hi), onC_bad hi])
  have HK := hid (fun wz (hz : AM l S wz) => (by have := arLoadRefZ hz a nb; rw [hR] at this; exact this : Calls Tryz.prog 28 #[.pointer (some ⟨l.a, 0, none⟩), .int .u64 a, .int .i64 nb] wz fun e w' => e = .returned (.tuple #[.int .u64 R.1, .int .u8 R.2]) ∧ Below wz.heap.size wz w'))
  clear hR hnb
  clear h
  go_enter Tryz.func13, Tryz.ntmps13
  go_upto_region 1 with fail
  (try simp only [World.size_alloc, hp, hr])
  generalize hw1 : World.alloc (w.alloc _) _ = w1 at H0 ⊢
  clear hw1 hp hr
  obtain ⟨c0, c1, c2, c3⟩ := H0.out.cells
  have HC := hid (H0.out.pure (HNnb.out w1))
  go_wp2_with fail
  refine HC.out.mono ?_
  rintro e w2 ⟨rfl, H1⟩
  clear HC H0 c0 c1 c2 c3
  obtain ⟨c0, c1, c2, c3⟩ := H1.out.cells
  have HC := hid (H1.out.bel (HK.out w2 H1.out.am))
  go_wp2_with fail
  refine HC.out.mono ?_
  rintro e w3 ⟨rfl, H2⟩
  clear HC H1 c0 c1 c2 c3
  obtain ⟨c0, c1, c2, c3⟩ := H2.out.cells
  have HC := hid (H2.out.bel (giveZ R.1 0 R.2 w3))
  go_wp2_with fail
  refine HC.out.mono ?_
  rintro e w4 ⟨rfl, H3⟩
  clear HC H2 c0 c1 c2 c3
  obtain ⟨c0, c1, c2, c3⟩ := H3.out.cells
  clear c0 c1 c2 c3
  go_wp2_with (refine wpList_store_blk rfl 46 _ _ rfl r rfl (rsG R.2 R.1 0) rfl H3.out.rb (by first | rfl | (rw [rsG_len]; rfl)) (by first | exact I0.out | (rw [rsG_len]; exact I0.out)) (rsG_one _ _ _) ?_; intro w9 HB9 HU9)
  refine bodyPost_ret (results_blk (cs := rsG R.2 R.1 0) Tryz.results13 rfl (by first | exact agg_rs | (rw [rsG_len]; exact agg_rs)) HB9.out) rfl ?_
  exact PyP.mk rfl (RsOk.g _ _ _) (H3.out.done HU9.out) (PlR.rd rfl (Rd.obj (fun h => by rw [HRd.out h]; exact rsG_bad h) (by decide)))
set_option maxRecDepth 100000 in
set_option maxHeartbeats 8000000 in
theorem pl13 (h : AM l S w) (a b c : Int) (ha : U64 a) (hb : U64 b) (hc : U64 c) : Calls Tryz.prog 13 #[.pointer (some ⟨l.a, 0, none⟩), .agg #[.int .u8 13, .int .u64 a, .int .u64 b, .int .u64 c]] w (PyP l S w 13 a b c) := by
  have I0 := hid info_rs
  obtain ⟨p, hp⟩ : ∃ p, w.heap.size = p := ⟨_, rfl⟩
  obtain ⟨r, hr⟩ : ∃ r, p + 1 = r := ⟨_, rfl⟩
  have H0 : Hid (PX l S w p r [.int .u8 13, .int .u64 a, .int .u64 b, .int .u64 c] ((w.alloc (.cells #[.int .u8 13, .int .u64 a, .int .u64 b, .int .u64 c] 31)).alloc (.cells #[.int .u8 0, .int .u64 0, .int .u64 0, .string { data := #[] }, .int .i64 0, .int .i64 0, .int .i64 0, .int .i64 0, .int .i64 0, .int .i64 0, .int .i64 0, .int .i64 0, .int .i64 0, .int .i64 0, .int .i64 0, .int .i64 0, .int .i64 0, .int .i64 0, .int .i64 0, .int .i64 0, .int .u8 0, .int .i64 0, .int .i64 0, .int .i64 0, .int .i64 0, .int .i64 0, .int .i64 0, .int .i64 0, .int .i64 0, .int .i64 0, .int .i64 0, .int .i64 0, .int .i64 0, .int .i64 0, .int .i64 0] 46))) := hid (PX.start h hp hr)
  obtain ⟨nb, hnb⟩ : ∃ n, nbI b = n := ⟨_, rfl⟩
  have HNnb : Hid (∀ wz, Calls Tryz.prog 26 #[.int .u64 b] wz fun e w' => e = .returned (.int .i64 nb) ∧ w' = wz) := hid (fun wz => by
    have := number_walk b hb wz
    rw [show wrap64 b = nb from hnb] at this
    exact this)
  obtain ⟨R, hR⟩ : ∃ R, arLoadDataV S a nb = R := ⟨_, rfl⟩
  have HRd : Hid (wantO a ≠ 0 → R.2 = wantO a) := hid (fun hi => by rw [← hR]; unfold arLoadDataV; rw [if_neg (by rw [onC_bad hi]; exact hi), onC_bad hi])
  have HK := hid (fun wz (hz : AM l S wz) => (by have := arLoadDataZ hz a nb; rw [hR] at this; exact this : Calls Tryz.prog 30 #[.pointer (some ⟨l.a, 0, none⟩), .int .u64 a, .int .i64 nb] wz fun e w' => e = .returned (.tuple #[.int .u64 R.1, .int .u8 R.2]) ∧ Below wz.heap.size wz w'))
  clear hR hnb
  clear h
  go_enter Tryz.func13, Tryz.ntmps13
  go_upto_region 1 with fail
  (try simp only [World.size_alloc, hp, hr])
  generalize hw1 : World.alloc (w.alloc _) _ = w1 at H0 ⊢
  clear hw1 hp hr
  obtain ⟨c0, c1, c2, c3⟩ := H0.out.cells
  have HC := hid (H0.out.pure (HNnb.out w1))
  go_wp2_with fail
  refine HC.out.mono ?_
  rintro e w2 ⟨rfl, H1⟩
  clear HC H0 c0 c1 c2 c3
  obtain ⟨c0, c1, c2, c3⟩ := H1.out.cells
  have HC := hid (H1.out.bel (HK.out w2 H1.out.am))
  go_wp2_with fail
  refine HC.out.mono ?_
  rintro e w3 ⟨rfl, H2⟩
  clear HC H1 c0 c1 c2 c3
  obtain ⟨c0, c1, c2, c3⟩ := H2.out.cells
  have HC := hid (H2.out.bel (giveZ R.1 0 R.2 w3))
  go_wp2_with fail
  refine HC.out.mono ?_
  rintro e w4 ⟨rfl, H3⟩
  clear HC H2 c0 c1 c2 c3
  obtain ⟨c0, c1, c2, c3⟩ := H3.out.cells
  clear c0 c1 c2 c3
  go_wp2_with (refine wpList_store_blk rfl 46 _ _ rfl r rfl (rsG R.2 R.1 0) rfl H3.out.rb (by first | rfl | (rw [rsG_len]; rfl)) (by first | exact I0.out | (rw [rsG_len]; exact I0.out)) (rsG_one _ _ _) ?_; intro w9 HB9 HU9)
  refine bodyPost_ret (results_blk (cs := rsG R.2 R.1 0) Tryz.results13 rfl (by first | exact agg_rs | (rw [rsG_len]; exact agg_rs)) HB9.out) rfl ?_
  exact PyP.mk rfl (RsOk.g _ _ _) (H3.out.done HU9.out) (PlR.rd rfl (Rd.obj (fun h => by rw [HRd.out h]; exact rsG_bad h) (by decide)))
set_option maxRecDepth 100000 in
set_option maxHeartbeats 8000000 in
theorem pl16 (h : AM l S w) (a b c : Int) (ha : U64 a) (hb : U64 b) (hc : U64 c) : Calls Tryz.prog 13 #[.pointer (some ⟨l.a, 0, none⟩), .agg #[.int .u8 16, .int .u64 a, .int .u64 b, .int .u64 c]] w (PyP l S w 16 a b c) := by
  have I0 := hid info_rs
  obtain ⟨p, hp⟩ : ∃ p, w.heap.size = p := ⟨_, rfl⟩
  obtain ⟨r, hr⟩ : ∃ r, p + 1 = r := ⟨_, rfl⟩
  have H0 : Hid (PX l S w p r [.int .u8 16, .int .u64 a, .int .u64 b, .int .u64 c] ((w.alloc (.cells #[.int .u8 16, .int .u64 a, .int .u64 b, .int .u64 c] 31)).alloc (.cells #[.int .u8 0, .int .u64 0, .int .u64 0, .string { data := #[] }, .int .i64 0, .int .i64 0, .int .i64 0, .int .i64 0, .int .i64 0, .int .i64 0, .int .i64 0, .int .i64 0, .int .i64 0, .int .i64 0, .int .i64 0, .int .i64 0, .int .i64 0, .int .i64 0, .int .i64 0, .int .i64 0, .int .u8 0, .int .i64 0, .int .i64 0, .int .i64 0, .int .i64 0, .int .i64 0, .int .i64 0, .int .i64 0, .int .i64 0, .int .i64 0, .int .i64 0, .int .i64 0, .int .i64 0, .int .i64 0, .int .i64 0] 46))) := hid (PX.start h hp hr)
  obtain ⟨v, hv⟩ : ∃ v : Int, (if wantO a = 0 then ((eN 2 32 S.C (gIx a) : Nat) : Int) else 0) = v := ⟨_, rfl⟩
  obtain ⟨v2, hv2⟩ : ∃ v2 : Int, IntKind.u64.wrap v = v2 := ⟨_, rfl⟩
  obtain ⟨cd, hcd⟩ : ∃ cd, wantO a = cd := ⟨_, rfl⟩
  have HRd : Hid (wantO a ≠ 0 → cd = wantO a) := hid (fun hi => hcd.symm)
  have HK := hid (fun wz (hz : AM l S wz) => (by have := countZ hz a; rw [hv, hcd] at this; exact this : Calls Tryz.prog 73 #[.pointer (some ⟨l.a, 0, none⟩), .int .u64 a] wz fun e w' => e = .returned (.tuple #[.int .u8 v, .int .u8 cd]) ∧ Drew wz w'))
  clear hv hcd
  clear h
  go_enter Tryz.func13, Tryz.ntmps13
  go_upto_region 1 with fail
  (try simp only [World.size_alloc, hp, hr])
  generalize hw1 : World.alloc (w.alloc _) _ = w1 at H0 ⊢
  clear hw1 hp hr
  obtain ⟨c0, c1, c2, c3⟩ := H0.out.cells
  have HC := hid (H0.out.drw (HK.out w1 H0.out.am))
  go_wp2_with fail
  refine HC.out.mono ?_
  rintro e w2 ⟨rfl, H1⟩
  clear HC H0 c0 c1 c2 c3
  obtain ⟨c0, c1, c2, c3⟩ := H1.out.cells
  have HC := hid (H1.out.bel (giveZ v2 0 cd w2))
  go_wp2_with fail
  refine HC.out.mono ?_
  rintro e w3 ⟨rfl, H2⟩
  clear HC H1 c0 c1 c2 c3
  obtain ⟨c0, c1, c2, c3⟩ := H2.out.cells
  clear c0 c1 c2 c3
  go_wp2_with (refine wpList_store_blk rfl 46 _ _ rfl r rfl (rsG cd v2 0) rfl H2.out.rb (by first | rfl | (rw [rsG_len]; rfl)) (by first | exact I0.out | (rw [rsG_len]; exact I0.out)) (rsG_one _ _ _) ?_; intro w9 HB9 HU9)
  refine bodyPost_ret (results_blk (cs := rsG cd v2 0) Tryz.results13 rfl (by first | exact agg_rs | (rw [rsG_len]; exact agg_rs)) HB9.out) rfl ?_
  exact PyP.mk rfl (RsOk.g _ _ _) (H2.out.done HU9.out) (PlR.rd rfl (Rd.obj (fun h => by rw [HRd.out h]; exact rsG_bad h) (by decide)))
set_option maxRecDepth 100000 in
set_option maxHeartbeats 8000000 in
theorem pl23 (h : AM l S w) (a b c : Int) (ha : U64 a) (hb : U64 b) (hc : U64 c) : Calls Tryz.prog 13 #[.pointer (some ⟨l.a, 0, none⟩), .agg #[.int .u8 23, .int .u64 a, .int .u64 b, .int .u64 c]] w (PyP l S w 23 a b c) := by
  have I0 := hid info_rs
  obtain ⟨p, hp⟩ : ∃ p, w.heap.size = p := ⟨_, rfl⟩
  obtain ⟨r, hr⟩ : ∃ r, p + 1 = r := ⟨_, rfl⟩
  have H0 : Hid (PX l S w p r [.int .u8 23, .int .u64 a, .int .u64 b, .int .u64 c] ((w.alloc (.cells #[.int .u8 23, .int .u64 a, .int .u64 b, .int .u64 c] 31)).alloc (.cells #[.int .u8 0, .int .u64 0, .int .u64 0, .string { data := #[] }, .int .i64 0, .int .i64 0, .int .i64 0, .int .i64 0, .int .i64 0, .int .i64 0, .int .i64 0, .int .i64 0, .int .i64 0, .int .i64 0, .int .i64 0, .int .i64 0, .int .i64 0, .int .i64 0, .int .i64 0, .int .i64 0, .int .u8 0, .int .i64 0, .int .i64 0, .int .i64 0, .int .i64 0, .int .i64 0, .int .i64 0, .int .i64 0, .int .i64 0, .int .i64 0, .int .i64 0, .int .i64 0, .int .i64 0, .int .i64 0, .int .i64 0] 46))) := hid (PX.start h hp hr)
  obtain ⟨z, hz0⟩ : ∃ z : Bool, (if wantO a = 0 then !(((eN 1 64 S.M (gIx a) : Nat) : Int) == 0) else false) = z := ⟨_, rfl⟩
  obtain ⟨cd, hcd⟩ : ∃ cd, wantO a = cd := ⟨_, rfl⟩
  have HRd : Hid (wantO a ≠ 0 → cd = wantO a) := hid (fun hi => hcd.symm)
  have HK := hid (fun wz (hz : AM l S wz) => (by have := markedZ hz a; rw [hz0, hcd] at this; exact this : Calls Tryz.prog 76 #[.pointer (some ⟨l.a, 0, none⟩), .int .u64 a] wz fun e w' => e = .returned (.tuple #[.bool z, .int .u8 cd]) ∧ Drew wz w'))
  clear hz0 hcd
  clear h
  go_enter Tryz.func13, Tryz.ntmps13
  go_upto_region 1 with fail
  (try simp only [World.size_alloc, hp, hr])
  generalize hw1 : World.alloc (w.alloc _) _ = w1 at H0 ⊢
  clear hw1 hp hr
  obtain ⟨c0, c1, c2, c3⟩ := H0.out.cells
  have HC := hid (H0.out.drw (HK.out w1 H0.out.am))
  go_wp2_with fail
  refine HC.out.mono ?_
  rintro e w2 ⟨rfl, H1⟩
  clear HC H0 c0 c1 c2 c3
  obtain ⟨c0, c1, c2, c3⟩ := H1.out.cells
  have HC := hid (H1.out.pure (flagZ z w2))
  go_wp2_with fail
  refine HC.out.mono ?_
  rintro e w3 ⟨rfl, H2⟩
  clear HC H1 c0 c1 c2 c3
  obtain ⟨c0, c1, c2, c3⟩ := H2.out.cells
  have HC := hid (H2.out.bel (giveZ ((bitN z : Nat) : Int) 0 cd w3))
  go_wp2_with fail
  refine HC.out.mono ?_
  rintro e w4 ⟨rfl, H3⟩
  clear HC H2 c0 c1 c2 c3
  obtain ⟨c0, c1, c2, c3⟩ := H3.out.cells
  clear c0 c1 c2 c3
  go_wp2_with (refine wpList_store_blk rfl 46 _ _ rfl r rfl (rsG cd ((bitN z : Nat) : Int) 0) rfl H3.out.rb (by first | rfl | (rw [rsG_len]; rfl)) (by first | exact I0.out | (rw [rsG_len]; exact I0.out)) (rsG_one _ _ _) ?_; intro w9 HB9 HU9)
  refine bodyPost_ret (results_blk (cs := rsG cd ((bitN z : Nat) : Int) 0) Tryz.results13 rfl (by first | exact agg_rs | (rw [rsG_len]; exact agg_rs)) HB9.out) rfl ?_
  exact PyP.mk rfl (RsOk.g _ _ _) (H3.out.done HU9.out) (PlR.rd rfl (Rd.obj (fun h => by rw [HRd.out h]; exact rsG_bad h) (by decide)))
set_option maxRecDepth 100000 in
set_option maxHeartbeats 8000000 in
theorem pl18 (h : AM l S w) (a b c : Int) (ha : U64 a) (hb : U64 b) (hc : U64 c) : Calls Tryz.prog 13 #[.pointer (some ⟨l.a, 0, none⟩), .agg #[.int .u8 18, .int .u64 a, .int .u64 b, .int .u64 c]] w (PyP l S w 18 a b c) := by
  have I0 := hid info_rs
  obtain ⟨p, hp⟩ : ∃ p, w.heap.size = p := ⟨_, rfl⟩
  obtain ⟨r, hr⟩ : ∃ r, p + 1 = r := ⟨_, rfl⟩
  have H0 : Hid (PX l S w p r [.int .u8 18, .int .u64 a, .int .u64 b, .int .u64 c] ((w.alloc (.cells #[.int .u8 18, .int .u64 a, .int .u64 b, .int .u64 c] 31)).alloc (.cells #[.int .u8 0, .int .u64 0, .int .u64 0, .string { data := #[] }, .int .i64 0, .int .i64 0, .int .i64 0, .int .i64 0, .int .i64 0, .int .i64 0, .int .i64 0, .int .i64 0, .int .i64 0, .int .i64 0, .int .i64 0, .int .i64 0, .int .i64 0, .int .i64 0, .int .i64 0, .int .i64 0, .int .u8 0, .int .i64 0, .int .i64 0, .int .i64 0, .int .i64 0, .int .i64 0, .int .i64 0, .int .i64 0, .int .i64 0, .int .i64 0, .int .i64 0, .int .i64 0, .int .i64 0, .int .i64 0, .int .i64 0] 46))) := hid (PX.start h hp hr)
  obtain ⟨z, hz0⟩ : ∃ z : Bool, (if wantW a = 0 then !(((eN 1 64 S.L (wIx a) : Nat) : Int) == 0) else false) = z := ⟨_, rfl⟩
  obtain ⟨cd, hcd⟩ : ∃ cd, wantW a = cd := ⟨_, rfl⟩
  have HRd : Hid (¬ InH a → cd = 1) := hid (fun hi => by rw [← hcd]; exact wantW_bad hi)
  have HK := hid (fun wz (hz : AM l S wz) => (by have := loggedZ hz a; rw [hz0, hcd] at this; exact this : Calls Tryz.prog 81 #[.pointer (some ⟨l.a, 0, none⟩), .int .u64 a] wz fun e w' => e = .returned (.tuple #[.bool z, .int .u8 cd]) ∧ Drew wz w'))
  clear hz0 hcd
  clear h
  go_enter Tryz.func13, Tryz.ntmps13
  go_upto_region 1 with fail
  (try simp only [World.size_alloc, hp, hr])
  generalize hw1 : World.alloc (w.alloc _) _ = w1 at H0 ⊢
  clear hw1 hp hr
  obtain ⟨c0, c1, c2, c3⟩ := H0.out.cells
  have HC := hid (H0.out.drw (HK.out w1 H0.out.am))
  go_wp2_with fail
  refine HC.out.mono ?_
  rintro e w2 ⟨rfl, H1⟩
  clear HC H0 c0 c1 c2 c3
  obtain ⟨c0, c1, c2, c3⟩ := H1.out.cells
  have HC := hid (H1.out.pure (flagZ z w2))
  go_wp2_with fail
  refine HC.out.mono ?_
  rintro e w3 ⟨rfl, H2⟩
  clear HC H1 c0 c1 c2 c3
  obtain ⟨c0, c1, c2, c3⟩ := H2.out.cells
  have HC := hid (H2.out.bel (giveZ ((bitN z : Nat) : Int) 0 cd w3))
  go_wp2_with fail
  refine HC.out.mono ?_
  rintro e w4 ⟨rfl, H3⟩
  clear HC H2 c0 c1 c2 c3
  obtain ⟨c0, c1, c2, c3⟩ := H3.out.cells
  clear c0 c1 c2 c3
  go_wp2_with (refine wpList_store_blk rfl 46 _ _ rfl r rfl (rsG cd ((bitN z : Nat) : Int) 0) rfl H3.out.rb (by first | rfl | (rw [rsG_len]; rfl)) (by first | exact I0.out | (rw [rsG_len]; exact I0.out)) (rsG_one _ _ _) ?_; intro w9 HB9 HU9)
  refine bodyPost_ret (results_blk (cs := rsG cd ((bitN z : Nat) : Int) 0) Tryz.results13 rfl (by first | exact agg_rs | (rw [rsG_len]; exact agg_rs)) HB9.out) rfl ?_
  exact PyP.mk rfl (RsOk.g _ _ _) (H3.out.done HU9.out) (PlR.rd rfl (Rd.word (fun h => rsG_b1 (HRd.out h)) (by decide)))
set_option maxRecDepth 100000 in
set_option maxHeartbeats 8000000 in
theorem pl53 (h : AM l S w) (a b c : Int) (ha : U64 a) (hb : U64 b) (hc : U64 c) : Calls Tryz.prog 13 #[.pointer (some ⟨l.a, 0, none⟩), .agg #[.int .u8 53, .int .u64 a, .int .u64 b, .int .u64 c]] w (PyP l S w 53 a b c) := by
  have I0 := hid info_rs
  obtain ⟨p, hp⟩ : ∃ p, w.heap.size = p := ⟨_, rfl⟩
  obtain ⟨r, hr⟩ : ∃ r, p + 1 = r := ⟨_, rfl⟩
  have H0 : Hid (PX l S w p r [.int .u8 53, .int .u64 a, .int .u64 b, .int .u64 c] ((w.alloc (.cells #[.int .u8 53, .int .u64 a, .int .u64 b, .int .u64 c] 31)).alloc (.cells #[.int .u8 0, .int .u64 0, .int .u64 0, .string { data := #[] }, .int .i64 0, .int .i64 0, .int .i64 0, .int .i64 0, .int .i64 0, .int .i64 0, .int .i64 0, .int .i64 0, .int .i64 0, .int .i64 0, .int .i64 0, .int .i64 0, .int .i64 0, .int .i64 0, .int .i64 0, .int .i64 0, .int .u8 0, .int .i64 0, .int .i64 0, .int .i64 0, .int .i64 0, .int .i64 0, .int .i64 0, .int .i64 0, .int .i64 0, .int .i64 0, .int .i64 0, .int .i64 0, .int .i64 0, .int .i64 0, .int .i64 0] 46))) := hid (PX.start h hp hr)
  have HK := hid (fun wz (hz : AM l S wz) => versionZ hz)
  clear h
  go_enter Tryz.func13, Tryz.ntmps13
  go_upto_region 1 with fail
  (try simp only [World.size_alloc, hp, hr])
  generalize hw1 : World.alloc (w.alloc _) _ = w1 at H0 ⊢
  clear hw1 hp hr
  obtain ⟨c0, c1, c2, c3⟩ := H0.out.cells
  have HC := hid (H0.out.pure (HK.out w1 H0.out.am))
  go_wp2_with fail
  refine HC.out.mono ?_
  rintro e w2 ⟨rfl, H1⟩
  clear HC H0 c0 c1 c2 c3
  obtain ⟨c0, c1, c2, c3⟩ := H1.out.cells
  clear c0 c1 c2 c3
  go_wp2_with (refine wpList_store_blk rfl 46 _ _ rfl r rfl (rsC 0 (S.v : Int) 0) rfl H1.out.rb (by first | rfl | (rw [show (rsC 0 (S.v : Int) 0).length = 35 from rfl]; rfl)) (by first | exact I0.out | (rw [show (rsC 0 (S.v : Int) 0).length = 35 from rfl]; exact I0.out)) (rsC_one _ _ _) ?_; intro w9 HB9 HU9)
  refine bodyPost_ret (results_blk (cs := rsC 0 (S.v : Int) 0) Tryz.results13 rfl (by first | exact agg_rs | (rw [show (rsC 0 (S.v : Int) 0).length = 35 from rfl]; exact agg_rs)) HB9.out) rfl ?_
  exact PyP.mk rfl (RsOk.c _ _ _) (H1.out.done HU9.out) (PlR.rd rfl (Rd.free (by decide) (by decide)))
set_option maxRecDepth 100000 in
set_option maxHeartbeats 8000000 in
theorem pl5 (h : AM l S w) (a b c : Int) (ha : U64 a) (hb : U64 b) (hc : U64 c) : Calls Tryz.prog 13 #[.pointer (some ⟨l.a, 0, none⟩), .agg #[.int .u8 5, .int .u64 a, .int .u64 b, .int .u64 c]] w (PyP l S w 5 a b c) := by
  have I0 := hid info_rs
  obtain ⟨p, hp⟩ : ∃ p, w.heap.size = p := ⟨_, rfl⟩
  obtain ⟨r, hr⟩ : ∃ r, p + 1 = r := ⟨_, rfl⟩
  have H0 : Hid (PX l S w p r [.int .u8 5, .int .u64 a, .int .u64 b, .int .u64 c] ((w.alloc (.cells #[.int .u8 5, .int .u64 a, .int .u64 b, .int .u64 c] 31)).alloc (.cells #[.int .u8 0, .int .u64 0, .int .u64 0, .string { data := #[] }, .int .i64 0, .int .i64 0, .int .i64 0, .int .i64 0, .int .i64 0, .int .i64 0, .int .i64 0, .int .i64 0, .int .i64 0, .int .i64 0, .int .i64 0, .int .i64 0, .int .i64 0, .int .i64 0, .int .i64 0, .int .i64 0, .int .u8 0, .int .i64 0, .int .i64 0, .int .i64 0, .int .i64 0, .int .i64 0, .int .i64 0, .int .i64 0, .int .i64 0, .int .i64 0, .int .i64 0, .int .i64 0, .int .i64 0, .int .i64 0, .int .i64 0] 46))) := hid (PX.start h hp hr)
  have HK : Hid (∀ wz : World, Calls Tryz.prog 65 #[.int .u64 a] wz fun e w' => ∃ s rf cd : Int, e = .returned (.tuple #[.agg #[.int .i64 s, .int .i64 rf], .int .u8 cd]) ∧ Below wz.heap.size wz w') := hid (fun wz => by
    by_cases hi : isHdr a
    · exact (decode_good a wz ha.1 ha.2 hi).mono fun e w' h => ⟨_, _, _, h⟩
    · exact (decode_bad a wz ha.1 ha.2 hi).mono fun e w' h => ⟨_, _, _, h⟩)
  clear h
  go_enter Tryz.func13, Tryz.ntmps13
  go_upto_region 1 with fail
  (try simp only [World.size_alloc, hp, hr])
  generalize hw1 : World.alloc (w.alloc _) _ = w1 at H0 ⊢
  clear hw1 hp hr
  obtain ⟨c0, c1, c2, c3⟩ := H0.out.cells
  have HC := hid (HK.out w1)
  go_wp2_with fail
  refine HC.out.mono ?_
  rintro e w2 ⟨s, rf, cd, rfl, hb_⟩
  have H1 := hid (H0.out.below hb_)
  clear hb_
  clear HC H0 c0 c1 c2 c3
  obtain ⟨c0, c1, c2, c3⟩ := H1.out.cells
  obtain ⟨g_, hg_⟩ : ∃ g, w2.heap.size = g := ⟨_, rfl⟩
  have HQ : Hid (PX l S w p r [.int .u8 5, .int .u64 a, .int .u64 b, .int .u64 c] (w2.alloc (.cells #[.int .i64 s, .int .i64 rf] 59)) ∧ Blk (w2.alloc (.cells #[.int .i64 s, .int .i64 rf] 59)) g_ 59 [.int .i64 s, .int .i64 rf]) := hid (by
    have kk := Blk.new w2 [.int .i64 s, .int .i64 rf] 59
    rw [hg_] at kk
    exact ⟨H1.out.below (nbel _ _), kk⟩)
  go_upto_region 23 with fail
  (try simp only [hg_])
  generalize hwq : w2.alloc _ = wq at HQ ⊢
  clear hwq hg_ H1 c0 c1 c2 c3
  have q0 := HQ.out.2.cell 0
  have q1 := HQ.out.2.cell 1
  simp only [List.getElem?_cons_zero, List.getElem?_cons_succ] at q0 q1
  have H9 := hid HQ.out.1
  obtain ⟨c0, c1, c2, c3⟩ := H9.out.cells
  obtain ⟨s2, hs2⟩ : ∃ v : Int, IntKind.u64.wrap s = v := ⟨_, rfl⟩
  obtain ⟨r2, hr2⟩ : ∃ v : Int, IntKind.u64.wrap rf = v := ⟨_, rfl⟩
  have HC := hid (H9.out.bel (giveZ s2 r2 cd wq))
  go_wp2_with fail
  refine HC.out.mono ?_
  rintro e w11 ⟨rfl, H10⟩
  clear HC H9 c0 c1 c2 c3
  obtain ⟨c0, c1, c2, c3⟩ := H10.out.cells
  clear c0 c1 c2 c3
  go_wp2_with (refine wpList_store_blk rfl 46 _ _ rfl r rfl (rsG cd s2 r2) rfl H10.out.rb (by first | rfl | (rw [rsG_len]; rfl)) (by first | exact I0.out | (rw [rsG_len]; exact I0.out)) (rsG_one _ _ _) ?_; intro w9 HB9 HU9)
  refine bodyPost_ret (results_blk (cs := rsG cd s2 r2) Tryz.results13 rfl (by first | exact agg_rs | (rw [rsG_len]; exact agg_rs)) HB9.out) rfl ?_
  exact PyP.mk rfl (RsOk.g _ _ _) (H10.out.done HU9.out) (PlR.rd rfl (Rd.free (by decide) (by decide)))
set_option maxRecDepth 100000 in
set_option maxHeartbeats 8000000 in
theorem pl7 (h : AM l S w) (a b c : Int) (ha : U64 a) (hb : U64 b) (hc : U64 c) : Calls Tryz.prog 13 #[.pointer (some ⟨l.a, 0, none⟩), .agg #[.int .u8 7, .int .u64 a, .int .u64 b, .int .u64 c]] w (PyP l S w 7 a b c) := by
  have I0 := hid info_rs
  obtain ⟨p, hp⟩ : ∃ p, w.heap.size = p := ⟨_, rfl⟩
  obtain ⟨r, hr⟩ : ∃ r, p + 1 = r := ⟨_, rfl⟩
  have H0 : Hid (PX l S w p r [.int .u8 7, .int .u64 a, .int .u64 b, .int .u64 c] ((w.alloc (.cells #[.int .u8 7, .int .u64 a, .int .u64 b, .int .u64 c] 31)).alloc (.cells #[.int .u8 0, .int .u64 0, .int .u64 0, .string { data := #[] }, .int .i64 0, .int .i64 0, .int .i64 0, .int .i64 0, .int .i64 0, .int .i64 0, .int .i64 0, .int .i64 0, .int .i64 0, .int .i64 0, .int .i64 0, .int .i64 0, .int .i64 0, .int .i64 0, .int .i64 0, .int .i64 0, .int .u8 0, .int .i64 0, .int .i64 0, .int .i64 0, .int .i64 0, .int .i64 0, .int .i64 0, .int .i64 0, .int .i64 0, .int .i64 0, .int .i64 0, .int .i64 0, .int .i64 0, .int .i64 0, .int .i64 0] 46))) := hid (PX.start h hp hr)
  obtain ⟨cd, hcd⟩ : ∃ cd, onC S a = cd := ⟨_, rfl⟩
  have HRd : Hid (wantO a ≠ 0 → cd = wantO a) := hid (fun hi => by rw [← hcd]; exact onC_bad hi)
  have HK := hid (fun wz (hz : AM l S wz) => (by have := arHeaderZ hz a; rw [hcd] at this; exact this.mono (fun e w' ⟨s, rf, he, _, _, _, _, hb⟩ => ⟨s, rf, he, hb.out⟩) : Calls Tryz.prog 67 #[.pointer (some ⟨l.a, 0, none⟩), .int .u64 a] wz fun e w' => ∃ s rf : Int, e = .returned (.tuple #[.agg #[.int .i64 s, .int .i64 rf], .int .u8 cd]) ∧ Below wz.heap.size wz w'))
  clear hcd
  clear h
  go_enter Tryz.func13, Tryz.ntmps13
  go_upto_region 1 with fail
  (try simp only [World.size_alloc, hp, hr])
  generalize hw1 : World.alloc (w.alloc _) _ = w1 at H0 ⊢
  clear hw1 hp hr
  obtain ⟨c0, c1, c2, c3⟩ := H0.out.cells
  have HC := hid (HK.out w1 H0.out.am)
  go_wp2_with fail
  refine HC.out.mono ?_
  rintro e w2 ⟨s, rf, rfl, hb_⟩
  have H1 := hid (H0.out.below hb_)
  clear hb_
  clear HC H0 c0 c1 c2 c3
  obtain ⟨c0, c1, c2, c3⟩ := H1.out.cells
  obtain ⟨g_, hg_⟩ : ∃ g, w2.heap.size = g := ⟨_, rfl⟩
  have HQ : Hid (PX l S w p r [.int .u8 7, .int .u64 a, .int .u64 b, .int .u64 c] (w2.alloc (.cells #[.int .i64 s, .int .i64 rf] 59)) ∧ Blk (w2.alloc (.cells #[.int .i64 s, .int .i64 rf] 59)) g_ 59 [.int .i64 s, .int .i64 rf]) := hid (by
    have kk := Blk.new w2 [.int .i64 s, .int .i64 rf] 59
    rw [hg_] at kk
    exact ⟨H1.out.below (nbel _ _), kk⟩)
  go_upto_region 28 with fail
  (try simp only [hg_])
  generalize hwq : w2.alloc _ = wq at HQ ⊢
  clear hwq hg_ H1 c0 c1 c2 c3
  have q0 := HQ.out.2.cell 0
  have q1 := HQ.out.2.cell 1
  simp only [List.getElem?_cons_zero, List.getElem?_cons_succ] at q0 q1
  have H9 := hid HQ.out.1
  obtain ⟨c0, c1, c2, c3⟩ := H9.out.cells
  obtain ⟨s2, hs2⟩ : ∃ v : Int, IntKind.u64.wrap s = v := ⟨_, rfl⟩
  obtain ⟨r2, hr2⟩ : ∃ v : Int, IntKind.u64.wrap rf = v := ⟨_, rfl⟩
  have HC := hid (H9.out.bel (giveZ s2 r2 cd wq))
  go_wp2_with fail
  refine HC.out.mono ?_
  rintro e w11 ⟨rfl, H10⟩
  clear HC H9 c0 c1 c2 c3
  obtain ⟨c0, c1, c2, c3⟩ := H10.out.cells
  clear c0 c1 c2 c3
  go_wp2_with (refine wpList_store_blk rfl 46 _ _ rfl r rfl (rsG cd s2 r2) rfl H10.out.rb (by first | rfl | (rw [rsG_len]; rfl)) (by first | exact I0.out | (rw [rsG_len]; exact I0.out)) (rsG_one _ _ _) ?_; intro w9 HB9 HU9)
  refine bodyPost_ret (results_blk (cs := rsG cd s2 r2) Tryz.results13 rfl (by first | exact agg_rs | (rw [rsG_len]; exact agg_rs)) HB9.out) rfl ?_
  exact PyP.mk rfl (RsOk.g _ _ _) (H10.out.done HU9.out) (PlR.rd rfl (Rd.obj (fun h => by rw [HRd.out h]; exact rsG_bad h) (by decide)))
theorem encodeZ (s r : Int) (w : World) : Calls Tryz.prog 64 #[.int .i64 s, .int .i64 r] w fun e w' => e = .returned (.tuple #[.int .u64 (if hdrCheck s r = 0 then encW s r else 0), .int .u8 (hdrCheck s r)]) ∧ Below w.heap.size w w' := by
  by_cases h : hdrCheck s r = 0
  · rw [if_pos h, h]
    obtain ⟨h1, h2, h3, h4⟩ := hdr_ok h
    exact encode_walk s r w h1 h2 h3 h4
  · rw [if_neg h]
    exact encode_bad s r w (by rw [bne_iff_ne]; exact h)
set_option maxRecDepth 100000 in
set_option maxHeartbeats 8000000 in
theorem pl4 (h : AM l S w) (a b c : Int) (ha : U64 a) (hb : U64 b) (hc : U64 c) : Calls Tryz.prog 13 #[.pointer (some ⟨l.a, 0, none⟩), .agg #[.int .u8 4, .int .u64 a, .int .u64 b, .int .u64 c]] w (PyP l S w 4 a b c) := by
  have I0 := hid info_rs
  obtain ⟨p, hp⟩ : ∃ p, w.heap.size = p := ⟨_, rfl⟩
  obtain ⟨r, hr⟩ : ∃ r, p + 1 = r := ⟨_, rfl⟩
  have H0 : Hid (PX l S w p r [.int .u8 4, .int .u64 a, .int .u64 b, .int .u64 c] ((w.alloc (.cells #[.int .u8 4, .int .u64 a, .int .u64 b, .int .u64 c] 31)).alloc (.cells #[.int .u8 0, .int .u64 0, .int .u64 0, .string { data := #[] }, .int .i64 0, .int .i64 0, .int .i64 0, .int .i64 0, .int .i64 0, .int .i64 0, .int .i64 0, .int .i64 0, .int .i64 0, .int .i64 0, .int .i64 0, .int .i64 0, .int .i64 0, .int .i64 0, .int .i64 0, .int .i64 0, .int .u8 0, .int .i64 0, .int .i64 0, .int .i64 0, .int .i64 0, .int .i64 0, .int .i64 0, .int .i64 0, .int .i64 0, .int .i64 0, .int .i64 0, .int .i64 0, .int .i64 0, .int .i64 0, .int .i64 0] 46))) := hid (PX.start h hp hr)
  obtain ⟨na, hna⟩ : ∃ n, nbI a = n := ⟨_, rfl⟩
  have HNna : Hid (∀ wz, Calls Tryz.prog 26 #[.int .u64 a] wz fun e w' => e = .returned (.int .i64 na) ∧ w' = wz) := hid (fun wz => by
    have := number_walk a ha wz
    rw [show wrap64 a = na from hna] at this
    exact this)
  obtain ⟨nb, hnb⟩ : ∃ n, nbI b = n := ⟨_, rfl⟩
  have HNnb : Hid (∀ wz, Calls Tryz.prog 26 #[.int .u64 b] wz fun e w' => e = .returned (.int .i64 nb) ∧ w' = wz) := hid (fun wz => by
    have := number_walk b hb wz
    rw [show wrap64 b = nb from hnb] at this
    exact this)
  obtain ⟨v, hv⟩ : ∃ v : Int, (if hdrCheck na nb = 0 then encW na nb else 0) = v := ⟨_, rfl⟩
  obtain ⟨cd, hcd⟩ : ∃ cd, hdrCheck na nb = cd := ⟨_, rfl⟩
  have HK := hid (fun wz => (by have := encodeZ na nb wz; rw [hv, hcd] at this; exact this : Calls Tryz.prog 64 #[.int .i64 na, .int .i64 nb] wz fun e w' => e = .returned (.tuple #[.int .u64 v, .int .u8 cd]) ∧ Below wz.heap.size wz w'))
  clear h hna hnb hv hcd
  go_enter Tryz.func13, Tryz.ntmps13
  go_upto_region 1 with fail
  (try simp only [World.size_alloc, hp, hr])
  generalize hw1 : World.alloc (w.alloc _) _ = w1 at H0 ⊢
  clear hw1 hp hr
  obtain ⟨c0, c1, c2, c3⟩ := H0.out.cells
  go_upto_region 19 with fail
  obtain ⟨X, W, HTT, HH0, hne, HCl⟩ := class_below w1
  have y1 : ∀ y, (W y).cell? ⟨p, 1, none⟩ = some (.int .u64 a) := fun y => (H0.out.below (HTT.out y)).cells.2.1
  have y2 : ∀ y, (W y).cell? ⟨p, 2, none⟩ = some (.int .u64 b) := fun y => (H0.out.below (HTT.out y)).cells.2.2.1
  have HKy := hid (fun y => HK.out (W y))
  have HNa := hid (fun y => HNna.out (W y))
  have HNb := hid (fun y => HNnb.out (W y))
  refine wp_region_class W (by kernel_rfl) (by kernel_rfl) HH0.out ?_
  repeat (go_big_quiet_step (first | (go_at_call 26; first | with_reducible exact Calls.class_same (HNa.out _) | with_reducible exact Calls.class_same (HNb.out _)) | (go_at_call 64; with_reducible exact Calls.class_of HCl.out (HKy.out _))))
  refine wpQuiet_nil ?_
  intro y
  have H1 := hid (H0.out.below (HTT.out y))
  generalize W y = w2 at H1 ⊢
  clear y1 y2 HKy HNa HNb HH0 HTT HCl hne H0 c0 c1 c2 c3 HK
  obtain ⟨c0, c1, c2, c3⟩ := H1.out.cells
  have HC := hid (H1.out.bel (giveZ v 0 cd w2))
  go_wp2_with fail
  refine HC.out.mono ?_
  rintro e w3 ⟨rfl, H2⟩
  clear HC H1 c0 c1 c2 c3
  obtain ⟨c0, c1, c2, c3⟩ := H2.out.cells
  clear c0 c1 c2 c3
  go_wp2_with (refine wpList_store_blk rfl 46 _ _ rfl r rfl (rsG cd v 0) rfl H2.out.rb (by first | rfl | (rw [rsG_len]; rfl)) (by first | exact I0.out | (rw [rsG_len]; exact I0.out)) (rsG_one _ _ _) ?_; intro w9 HB9 HU9)
  refine bodyPost_ret (results_blk (cs := rsG cd v 0) Tryz.results13 rfl (by first | exact agg_rs | (rw [rsG_len]; exact agg_rs)) HB9.out) rfl ?_
  exact PyP.mk rfl (RsOk.g _ _ _) (H2.out.done HU9.out) (PlR.rd rfl (Rd.free (by decide) (by decide)))
set_option maxRecDepth 100000 in
set_option maxHeartbeats 8000000 in
theorem pl6 (h : AM l S w) (a b c : Int) (ha : U64 a) (hb : U64 b) (hc : U64 c) : Calls Tryz.prog 13 #[.pointer (some ⟨l.a, 0, none⟩), .agg #[.int .u8 6, .int .u64 a, .int .u64 b, .int .u64 c]] w (PyP l S w 6 a b c) := by
  have I0 := hid info_rs
  obtain ⟨p, hp⟩ : ∃ p, w.heap.size = p := ⟨_, rfl⟩
  obtain ⟨r, hr⟩ : ∃ r, p + 1 = r := ⟨_, rfl⟩
  have H0 : Hid (PX l S w p r [.int .u8 6, .int .u64 a, .int .u64 b, .int .u64 c] ((w.alloc (.cells #[.int .u8 6, .int .u64 a, .int .u64 b, .int .u64 c] 31)).alloc (.cells #[.int .u8 0, .int .u64 0, .int .u64 0, .string { data := #[] }, .int .i64 0, .int .i64 0, .int .i64 0, .int .i64 0, .int .i64 0, .int .i64 0, .int .i64 0, .int .i64 0, .int .i64 0, .int .i64 0, .int .i64 0, .int .i64 0, .int .i64 0, .int .i64 0, .int .i64 0, .int .i64 0, .int .u8 0, .int .i64 0, .int .i64 0, .int .i64 0, .int .i64 0, .int .i64 0, .int .i64 0, .int .i64 0, .int .i64 0, .int .i64 0, .int .i64 0, .int .i64 0, .int .i64 0, .int .i64 0, .int .i64 0] 46))) := hid (PX.start h hp hr)
  obtain ⟨nb, hnb⟩ : ∃ n, nbI b = n := ⟨_, rfl⟩
  have HNnb : Hid (∀ wz, Calls Tryz.prog 26 #[.int .u64 b] wz fun e w' => e = .returned (.int .i64 nb) ∧ w' = wz) := hid (fun wz => by
    have := number_walk b hb wz
    rw [show wrap64 b = nb from hnb] at this
    exact this)
  obtain ⟨nc, hnc⟩ : ∃ n, nbI c = n := ⟨_, rfl⟩
  have HNnc : Hid (∀ wz, Calls Tryz.prog 26 #[.int .u64 c] wz fun e w' => e = .returned (.int .i64 nc) ∧ w' = wz) := hid (fun wz => by
    have := number_walk c hc wz
    rw [show wrap64 c = nc from hnc] at this
    exact this)
  obtain ⟨R, hR⟩ : ∃ R, formatA S a nb nc = R := ⟨_, rfl⟩
  have HPl : Hid (plW S 6 a b c = some (R.1, 0, R.2)) := hid (by rw [← hR, ← hnb, ← hnc]; rfl)
  have HU : Hid (∀ wz, AM l S wz → Calls Tryz.prog 66 #[.pointer (some ⟨l.a, 0, none⟩), .int .u64 a, .int .i64 nb, .int .i64 nc] wz fun e w' => e = .returned (.int .u8 R.1) ∧ Hid (AU l wz R.2 w')) := hid (fun wz hz => by
    have := formatZ hz a nb nc
    rw [hR] at this
    exact this)
  clear h hR hnb hnc
  go_enter Tryz.func13, Tryz.ntmps13
  go_upto_region 1 with fail
  (try simp only [World.size_alloc, hp, hr])
  generalize hw1 : World.alloc (w.alloc _) _ = w1 at H0 ⊢
  clear hw1 hp hr
  obtain ⟨c0, c1, c2, c3⟩ := H0.out.cells
  go_upto_region 25 with fail
  refine wp_region_heavy (fun wz => Blk wz p 31 [.int .u8 6, .int .u64 a, .int .u64 b, .int .u64 c]) 10 [0, 1, 2, 3, 4, 5, 6, 7] [8, 9] rfl (by kernel_rfl) (by kernel_rfl) (fun d _ _ _ _ h => by cases d <;> exact h) (H0.out.below (Drew.below ⟨1, rfl⟩ _)).op ?_
  apply Exists.intro
  refine ⟨?_, ?_⟩
  · intro W hW
    have d1 : ∀ x, (W x).cell? ⟨p, 1, none⟩ = some (.int .u64 a) := fun x => (hW x).cell 1
    have d2 : ∀ x, (W x).cell? ⟨p, 2, none⟩ = some (.int .u64 b) := fun x => (hW x).cell 2
    have d3 : ∀ x, (W x).cell? ⟨p, 3, none⟩ = some (.int .u64 c) := fun x => (hW x).cell 3
    clear hW
    simp only [List.take, opsAt, List.drop, List.cons_append, List.nil_append]
    repeat (go_big_quiet_step (first | (go_at_call 26; first | with_reducible exact Calls.class_same (HNnb.out _) | with_reducible exact Calls.class_same (HNnc.out _))))
    exact rfl
  simp only [List.take, List.drop, opsAt, List.cons_append, List.nil_append, wpHv]
  have H1 : Hid (PX l S w p r [.int .u8 6, .int .u64 a, .int .u64 b, .int .u64 c] w1.drew) := hid (H0.out.below (Drew.below ⟨1, rfl⟩ _))
  generalize w1.drew = w1d at H1 ⊢
  clear H0 c0 c1 c2 c3
  have HC := hid (H1.out.upd (HU.out w1d H1.out.am))
  go_wp2_with fail
  refine HC.out.mono ?_
  rintro e w2 ⟨rfl, H2⟩
  clear HC H1
  go_wp2_with fail
  refine ⟨H2.out.op, ?_⟩
  have HC := hid (H2.out.bel (refuse_walk R.1 w2))
  go_wp2_with fail
  refine HC.out.mono ?_
  rintro e w3 ⟨rfl, H3⟩
  clear HC H2
  go_wp2_with fail
  refine ⟨H3.out.op, ?_⟩
  simp only [QN]
  obtain ⟨c0, c1, c2, c3⟩ := H3.out.cells
  clear c0 c1 c2 c3
  go_wp2_with (refine wpList_store_blk rfl 46 _ _ rfl r rfl (rsC R.1 0 0) rfl H3.out.rb (by first | rfl | (rw [show (rsC R.1 0 0).length = 35 from rfl]; rfl)) (by first | exact I0.out | (rw [show (rsC R.1 0 0).length = 35 from rfl]; exact I0.out)) (rsC_one _ _ _) ?_; intro w9 HB9 HU9)
  refine bodyPost_ret (results_blk (cs := rsC R.1 0 0) Tryz.results13 rfl (by first | exact agg_rs | (rw [show (rsC R.1 0 0).length = 35 from rfl]; exact agg_rs)) HB9.out) rfl ?_
  exact PyP.mk rfl (RsOk.c _ _ _) (H3.out.done HU9.out) (by rw [← rsG_r]; exact PlR.wr HPl.out)
set_option maxRecDepth 100000 in
set_option maxHeartbeats 8000000 in
theorem pl12 (h : AM l S w) (a b c : Int) (ha : U64 a) (hb : U64 b) (hc : U64 c) : Calls Tryz.prog 13 #[.pointer (some ⟨l.a, 0, none⟩), .agg #[.int .u8 12, .int .u64 a, .int .u64 b, .int .u64 c]] w (PyP l S w 12 a b c) := by
  have I0 := hid info_rs
  obtain ⟨p, hp⟩ : ∃ p, w.heap.size = p := ⟨_, rfl⟩
  obtain ⟨r, hr⟩ : ∃ r, p + 1 = r := ⟨_, rfl⟩
  have H0 : Hid (PX l S w p r [.int .u8 12, .int .u64 a, .int .u64 b, .int .u64 c] ((w.alloc (.cells #[.int .u8 12, .int .u64 a, .int .u64 b, .int .u64 c] 31)).alloc (.cells #[.int .u8 0, .int .u64 0, .int .u64 0, .string { data := #[] }, .int .i64 0, .int .i64 0, .int .i64 0, .int .i64 0, .int .i64 0, .int .i64 0, .int .i64 0, .int .i64 0, .int .i64 0, .int .i64 0, .int .i64 0, .int .i64 0, .int .i64 0, .int .i64 0, .int .i64 0, .int .i64 0, .int .u8 0, .int .i64 0, .int .i64 0, .int .i64 0, .int .i64 0, .int .i64 0, .int .i64 0, .int .i64 0, .int .i64 0, .int .i64 0, .int .i64 0, .int .i64 0, .int .i64 0, .int .i64 0, .int .i64 0] 46))) := hid (PX.start h hp hr)
  obtain ⟨nb, hnb⟩ : ∃ n, nbI b = n := ⟨_, rfl⟩
  have HNnb : Hid (∀ wz, Calls Tryz.prog 26 #[.int .u64 b] wz fun e w' => e = .returned (.int .i64 nb) ∧ w' = wz) := hid (fun wz => by
    have := number_walk b hb wz
    rw [show wrap64 b = nb from hnb] at this
    exact this)
  obtain ⟨R, hR⟩ : ∃ R, arStoreRefA S a nb c = R := ⟨_, rfl⟩
  have HPl : Hid (plW S 12 a b c = some (R.1, 0, R.2)) := hid (by rw [← hR, ← hnb]; rfl)
  have HU : Hid (∀ wz, AM l S wz → Calls Tryz.prog 71 #[.pointer (some ⟨l.a, 0, none⟩), .int .u64 a, .int .i64 nb, .int .u64 c] wz fun e w' => e = .returned (.int .u8 R.1) ∧ Hid (AU l wz R.2 w')) := hid (fun wz hz => by
    have := arStoreRefZ hz a nb c hc
    rw [hR] at this
    exact this)
  clear h hR hnb
  go_enter Tryz.func13, Tryz.ntmps13
  go_upto_region 1 with fail
  (try simp only [World.size_alloc, hp, hr])
  generalize hw1 : World.alloc (w.alloc _) _ = w1 at H0 ⊢
  clear hw1 hp hr
  obtain ⟨c0, c1, c2, c3⟩ := H0.out.cells
  go_upto_region 41 with fail
  refine wp_region_heavy (fun wz => Blk wz p 31 [.int .u8 12, .int .u64 a, .int .u64 b, .int .u64 c]) 9 [0, 1, 2, 3, 4, 5, 6] [7, 8] rfl (by kernel_rfl) (by kernel_rfl) (fun d _ _ _ _ h => by cases d <;> exact h) (H0.out.below (Drew.below ⟨1, rfl⟩ _)).op ?_
  apply Exists.intro
  refine ⟨?_, ?_⟩
  · intro W hW
    have d1 : ∀ x, (W x).cell? ⟨p, 1, none⟩ = some (.int .u64 a) := fun x => (hW x).cell 1
    have d2 : ∀ x, (W x).cell? ⟨p, 2, none⟩ = some (.int .u64 b) := fun x => (hW x).cell 2
    have d3 : ∀ x, (W x).cell? ⟨p, 3, none⟩ = some (.int .u64 c) := fun x => (hW x).cell 3
    clear hW
    simp only [List.take, opsAt, List.drop, List.cons_append, List.nil_append]
    repeat (go_big_quiet_step (first | (go_at_call 26; first | with_reducible exact Calls.class_same (HNnb.out _))))
    exact rfl
  simp only [List.take, List.drop, opsAt, List.cons_append, List.nil_append, wpHv]
  have H1 : Hid (PX l S w p r [.int .u8 12, .int .u64 a, .int .u64 b, .int .u64 c] w1.drew) := hid (H0.out.below (Drew.below ⟨1, rfl⟩ _))
  generalize w1.drew = w1d at H1 ⊢
  clear H0 c0 c1 c2 c3
  have HC := hid (H1.out.upd (HU.out w1d H1.out.am))
  go_wp2_with fail
  refine HC.out.mono ?_
  rintro e w2 ⟨rfl, H2⟩
  clear HC H1
  go_wp2_with fail
  refine ⟨H2.out.op, ?_⟩
  have HC := hid (H2.out.bel (refuse_walk R.1 w2))
  go_wp2_with fail
  refine HC.out.mono ?_
  rintro e w3 ⟨rfl, H3⟩
  clear HC H2
  go_wp2_with fail
  refine ⟨H3.out.op, ?_⟩
  simp only [QN]
  obtain ⟨c0, c1, c2, c3⟩ := H3.out.cells
  clear c0 c1 c2 c3
  go_wp2_with (refine wpList_store_blk rfl 46 _ _ rfl r rfl (rsC R.1 0 0) rfl H3.out.rb (by first | rfl | (rw [show (rsC R.1 0 0).length = 35 from rfl]; rfl)) (by first | exact I0.out | (rw [show (rsC R.1 0 0).length = 35 from rfl]; exact I0.out)) (rsC_one _ _ _) ?_; intro w9 HB9 HU9)
  refine bodyPost_ret (results_blk (cs := rsC R.1 0 0) Tryz.results13 rfl (by first | exact agg_rs | (rw [show (rsC R.1 0 0).length = 35 from rfl]; exact agg_rs)) HB9.out) rfl ?_
  exact PyP.mk rfl (RsOk.c _ _ _) (H3.out.done HU9.out) (by rw [← rsG_r]; exact PlR.wr HPl.out)
set_option maxRecDepth 100000 in
set_option maxHeartbeats 8000000 in
theorem pl14 (h : AM l S w) (a b c : Int) (ha : U64 a) (hb : U64 b) (hc : U64 c) : Calls Tryz.prog 13 #[.pointer (some ⟨l.a, 0, none⟩), .agg #[.int .u8 14, .int .u64 a, .int .u64 b, .int .u64 c]] w (PyP l S w 14 a b c) := by
  have I0 := hid info_rs
  obtain ⟨p, hp⟩ : ∃ p, w.heap.size = p := ⟨_, rfl⟩
  obtain ⟨r, hr⟩ : ∃ r, p + 1 = r := ⟨_, rfl⟩
  have H0 : Hid (PX l S w p r [.int .u8 14, .int .u64 a, .int .u64 b, .int .u64 c] ((w.alloc (.cells #[.int .u8 14, .int .u64 a, .int .u64 b, .int .u64 c] 31)).alloc (.cells #[.int .u8 0, .int .u64 0, .int .u64 0, .string { data := #[] }, .int .i64 0, .int .i64 0, .int .i64 0, .int .i64 0, .int .i64 0, .int .i64 0, .int .i64 0, .int .i64 0, .int .i64 0, .int .i64 0, .int .i64 0, .int .i64 0, .int .i64 0, .int .i64 0, .int .i64 0, .int .i64 0, .int .u8 0, .int .i64 0, .int .i64 0, .int .i64 0, .int .i64 0, .int .i64 0, .int .i64 0, .int .i64 0, .int .i64 0, .int .i64 0, .int .i64 0, .int .i64 0, .int .i64 0, .int .i64 0, .int .i64 0] 46))) := hid (PX.start h hp hr)
  obtain ⟨nb, hnb⟩ : ∃ n, nbI b = n := ⟨_, rfl⟩
  have HNnb : Hid (∀ wz, Calls Tryz.prog 26 #[.int .u64 b] wz fun e w' => e = .returned (.int .i64 nb) ∧ w' = wz) := hid (fun wz => by
    have := number_walk b hb wz
    rw [show wrap64 b = nb from hnb] at this
    exact this)
  obtain ⟨R, hR⟩ : ∃ R, arStoreDataA S a nb c = R := ⟨_, rfl⟩
  have HPl : Hid (plW S 14 a b c = some (R.1, 0, R.2)) := hid (by rw [← hR, ← hnb]; rfl)
  have HU : Hid (∀ wz, AM l S wz → Calls Tryz.prog 72 #[.pointer (some ⟨l.a, 0, none⟩), .int .u64 a, .int .i64 nb, .int .u64 c] wz fun e w' => e = .returned (.int .u8 R.1) ∧ Hid (AU l wz R.2 w')) := hid (fun wz hz => by
    have := arStoreDataZ hz a nb c hc
    rw [hR] at this
    exact this)
  clear h hR hnb
  go_enter Tryz.func13, Tryz.ntmps13
  go_upto_region 1 with fail
  (try simp only [World.size_alloc, hp, hr])
  generalize hw1 : World.alloc (w.alloc _) _ = w1 at H0 ⊢
  clear hw1 hp hr
  obtain ⟨c0, c1, c2, c3⟩ := H0.out.cells
  go_upto_region 46 with fail
  refine wp_region_heavy (fun wz => Blk wz p 31 [.int .u8 14, .int .u64 a, .int .u64 b, .int .u64 c]) 9 [0, 1, 2, 3, 4, 5, 6] [7, 8] rfl (by kernel_rfl) (by kernel_rfl) (fun d _ _ _ _ h => by cases d <;> exact h) (H0.out.below (Drew.below ⟨1, rfl⟩ _)).op ?_
  apply Exists.intro
  refine ⟨?_, ?_⟩
  · intro W hW
    have d1 : ∀ x, (W x).cell? ⟨p, 1, none⟩ = some (.int .u64 a) := fun x => (hW x).cell 1
    have d2 : ∀ x, (W x).cell? ⟨p, 2, none⟩ = some (.int .u64 b) := fun x => (hW x).cell 2
    have d3 : ∀ x, (W x).cell? ⟨p, 3, none⟩ = some (.int .u64 c) := fun x => (hW x).cell 3
    clear hW
    simp only [List.take, opsAt, List.drop, List.cons_append, List.nil_append]
    repeat (go_big_quiet_step (first | (go_at_call 26; first | with_reducible exact Calls.class_same (HNnb.out _))))
    exact rfl
  simp only [List.take, List.drop, opsAt, List.cons_append, List.nil_append, wpHv]
  have H1 : Hid (PX l S w p r [.int .u8 14, .int .u64 a, .int .u64 b, .int .u64 c] w1.drew) := hid (H0.out.below (Drew.below ⟨1, rfl⟩ _))
  generalize w1.drew = w1d at H1 ⊢
  clear H0 c0 c1 c2 c3
  have HC := hid (H1.out.upd (HU.out w1d H1.out.am))
  go_wp2_with fail
  refine HC.out.mono ?_
  rintro e w2 ⟨rfl, H2⟩
  clear HC H1
  go_wp2_with fail
  refine ⟨H2.out.op, ?_⟩
  have HC := hid (H2.out.bel (refuse_walk R.1 w2))
  go_wp2_with fail
  refine HC.out.mono ?_
  rintro e w3 ⟨rfl, H3⟩
  clear HC H2
  go_wp2_with fail
  refine ⟨H3.out.op, ?_⟩
  simp only [QN]
  obtain ⟨c0, c1, c2, c3⟩ := H3.out.cells
  clear c0 c1 c2 c3
  go_wp2_with (refine wpList_store_blk rfl 46 _ _ rfl r rfl (rsC R.1 0 0) rfl H3.out.rb (by first | rfl | (rw [show (rsC R.1 0 0).length = 35 from rfl]; rfl)) (by first | exact I0.out | (rw [show (rsC R.1 0 0).length = 35 from rfl]; exact I0.out)) (rsC_one _ _ _) ?_; intro w9 HB9 HU9)
  refine bodyPost_ret (results_blk (cs := rsC R.1 0 0) Tryz.results13 rfl (by first | exact agg_rs | (rw [show (rsC R.1 0 0).length = 35 from rfl]; exact agg_rs)) HB9.out) rfl ?_
  exact PyP.mk rfl (RsOk.c _ _ _) (H3.out.done HU9.out) (by rw [← rsG_r]; exact PlR.wr HPl.out)
set_option maxRecDepth 100000 in
set_option maxHeartbeats 8000000 in
theorem pl21 (h : AM l S w) (a b c : Int) (ha : U64 a) (hb : U64 b) (hc : U64 c) : Calls Tryz.prog 13 #[.pointer (some ⟨l.a, 0, none⟩), .agg #[.int .u8 21, .int .u64 a, .int .u64 b, .int .u64 c]] w (PyP l S w 21 a b c) := by
  have I0 := hid info_rs
  obtain ⟨p, hp⟩ : ∃ p, w.heap.size = p := ⟨_, rfl⟩
  obtain ⟨r, hr⟩ : ∃ r, p + 1 = r := ⟨_, rfl⟩
  have H0 : Hid (PX l S w p r [.int .u8 21, .int .u64 a, .int .u64 b, .int .u64 c] ((w.alloc (.cells #[.int .u8 21, .int .u64 a, .int .u64 b, .int .u64 c] 31)).alloc (.cells #[.int .u8 0, .int .u64 0, .int .u64 0, .string { data := #[] }, .int .i64 0, .int .i64 0, .int .i64 0, .int .i64 0, .int .i64 0, .int .i64 0, .int .i64 0, .int .i64 0, .int .i64 0, .int .i64 0, .int .i64 0, .int .i64 0, .int .i64 0, .int .i64 0, .int .i64 0, .int .i64 0, .int .u8 0, .int .i64 0, .int .i64 0, .int .i64 0, .int .i64 0, .int .i64 0, .int .i64 0, .int .i64 0, .int .i64 0, .int .i64 0, .int .i64 0, .int .i64 0, .int .i64 0, .int .i64 0, .int .i64 0] 46))) := hid (PX.start h hp hr)
  obtain ⟨nb, hnb⟩ : ∃ n, nbI b = n := ⟨_, rfl⟩
  have HNnb : Hid (∀ wz, Calls Tryz.prog 26 #[.int .u64 b] wz fun e w' => e = .returned (.int .i64 nb) ∧ w' = wz) := hid (fun wz => by
    have := number_walk b hb wz
    rw [show wrap64 b = nb from hnb] at this
    exact this)
  obtain ⟨bb, hbb⟩ : ∃ bb, (c != 0) = bb := ⟨_, rfl⟩
  have hbb' : (!(c == 0)) = bb := hbb
  obtain ⟨R, hR⟩ : ∃ R, fillLoggedA S a nb bb = R := ⟨_, rfl⟩
  have HPl : Hid (plW S 21 a b c = some (R.1, 0, R.2)) := hid (by rw [← hR, ← hnb, ← hbb]; rfl)
  have HU : Hid (∀ wz, AM l S wz → Calls Tryz.prog 84 #[.pointer (some ⟨l.a, 0, none⟩), .int .u64 a, .int .i64 nb, .bool bb] wz fun e w' => e = .returned (.int .u8 R.1) ∧ Hid (AU l wz R.2 w')) := hid (fun wz hz => by
    have := fillLoggedZ hz a nb bb
    rw [hR] at this
    exact this)
  clear h hR hnb
  go_enter Tryz.func13, Tryz.ntmps13
  go_upto_region 1 with fail
  (try simp only [World.size_alloc, hp, hr])
  generalize hw1 : World.alloc (w.alloc _) _ = w1 at H0 ⊢
  clear hw1 hp hr
  obtain ⟨c0, c1, c2, c3⟩ := H0.out.cells
  go_upto_region 74 with fail
  refine wp_region_heavy (fun wz => Blk wz p 31 [.int .u8 21, .int .u64 a, .int .u64 b, .int .u64 c]) 10 [0, 1, 2, 3, 4, 5, 6, 7] [8, 9] rfl (by kernel_rfl) (by kernel_rfl) (fun d _ _ _ _ h => by cases d <;> exact h) (H0.out.below (Drew.below ⟨1, rfl⟩ _)).op ?_
  apply Exists.intro
  refine ⟨?_, ?_⟩
  · intro W hW
    have d1 : ∀ x, (W x).cell? ⟨p, 1, none⟩ = some (.int .u64 a) := fun x => (hW x).cell 1
    have d2 : ∀ x, (W x).cell? ⟨p, 2, none⟩ = some (.int .u64 b) := fun x => (hW x).cell 2
    have d3 : ∀ x, (W x).cell? ⟨p, 3, none⟩ = some (.int .u64 c) := fun x => (hW x).cell 3
    clear hW
    simp only [List.take, opsAt, List.drop, List.cons_append, List.nil_append]
    repeat (go_big_quiet_step (first | (go_at_call 26; first | with_reducible exact Calls.class_same (HNnb.out _))))
    exact rfl
  simp only [List.take, List.drop, opsAt, List.cons_append, List.nil_append, wpHv]
  have H1 : Hid (PX l S w p r [.int .u8 21, .int .u64 a, .int .u64 b, .int .u64 c] w1.drew) := hid (H0.out.below (Drew.below ⟨1, rfl⟩ _))
  generalize w1.drew = w1d at H1 ⊢
  clear H0 c0 c1 c2 c3
  have HC := hid (H1.out.upd (HU.out w1d H1.out.am))
  go_wp2_with fail
  refine HC.out.mono ?_
  rintro e w2 ⟨rfl, H2⟩
  clear HC H1
  go_wp2_with fail
  refine ⟨H2.out.op, ?_⟩
  have HC := hid (H2.out.bel (refuse_walk R.1 w2))
  go_wp2_with fail
  refine HC.out.mono ?_
  rintro e w3 ⟨rfl, H3⟩
  clear HC H2
  go_wp2_with fail
  refine ⟨H3.out.op, ?_⟩
  simp only [QN]
  obtain ⟨c0, c1, c2, c3⟩ := H3.out.cells
  clear c0 c1 c2 c3
  go_wp2_with (refine wpList_store_blk rfl 46 _ _ rfl r rfl (rsC R.1 0 0) rfl H3.out.rb (by first | rfl | (rw [show (rsC R.1 0 0).length = 35 from rfl]; rfl)) (by first | exact I0.out | (rw [show (rsC R.1 0 0).length = 35 from rfl]; exact I0.out)) (rsC_one _ _ _) ?_; intro w9 HB9 HU9)
  refine bodyPost_ret (results_blk (cs := rsC R.1 0 0) Tryz.results13 rfl (by first | exact agg_rs | (rw [show (rsC R.1 0 0).length = 35 from rfl]; exact agg_rs)) HB9.out) rfl ?_
  exact PyP.mk rfl (RsOk.c _ _ _) (H3.out.done HU9.out) (by rw [← rsG_r]; exact PlR.wr HPl.out)
end
end Go.Proofs.Qxb6500887aGreat
