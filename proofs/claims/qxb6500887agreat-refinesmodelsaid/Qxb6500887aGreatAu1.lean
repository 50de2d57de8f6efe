/- Reading steps with their answers (written by tools/mk_au.py). -/
import Derived.Test.Qxb6500887aGreatAv3
import Derived.Test.Qxb6500887aGreatAx7
import Derived.Test.Qxb6500887aGreatAzZc
import Derived.Deep.DeepCutAuto
namespace Go.Proofs.Qxb6500887aGreat
open Go.RowKit
set_option linter.unusedSimpArgs false
set_option linter.unusedVariables false
section
variable {l : AL} {S S' : AS} {w w' w0 : World}
set_option maxRecDepth 100000 in
set_option maxHeartbeats 8000000 in
theorem px0 (h : AM l S w) (a b c : Int) (ha : U64 a) (hb : U64 b) (hc : U64 c) : Calls Tryz.prog 13 #[.pointer (some ⟨l.a, 0, none⟩), .agg #[.int .u8 0, .int .u64 a, .int .u64 b, .int .u64 c]] w (PyE l S w (stR (abE S) 0 a b c).1) := by
  have I0 := hid info_rs
  obtain ⟨p, hp⟩ : ∃ p, w.heap.size = p := ⟨_, rfl⟩
  obtain ⟨r, hr⟩ : ∃ r, p + 1 = r := ⟨_, rfl⟩
  have H0 : Hid (PX l S w p r [.int .u8 0, .int .u64 a, .int .u64 b, .int .u64 c] ((w.alloc (.cells #[.int .u8 0, .int .u64 a, .int .u64 b, .int .u64 c] 31)).alloc (.cells #[.int .u8 0, .int .u64 0, .int .u64 0, .string { data := #[] }, .int .i64 0, .int .i64 0, .int .i64 0, .int .i64 0, .int .i64 0, .int .i64 0, .int .i64 0, .int .i64 0, .int .i64 0, .int .i64 0, .int .i64 0, .int .i64 0, .int .i64 0, .int .i64 0, .int .i64 0, .int .i64 0, .int .u8 0, .int .i64 0, .int .i64 0, .int .i64 0, .int .i64 0, .int .i64 0, .int .i64 0, .int .i64 0, .int .i64 0, .int .i64 0, .int .i64 0, .int .i64 0, .int .i64 0, .int .i64 0, .int .i64 0] 46))) := hid (PX.start h hp hr)
  obtain ⟨v, hv⟩ : ∃ v : Int, (if InH a then ((S.W (wIx a) : Nat) : Int) else 0) = v := ⟨_, rfl⟩
  obtain ⟨cd, hcd⟩ : ∃ cd, wantW a = cd := ⟨_, rfl⟩
  have HRd : Hid (¬ InH a → cd = 1) := hid (fun hi => by rw [← hcd]; exact wantW_bad hi)
  have HK := hid (fun wz (hz : AM l S wz) => (by have := loadZ hz a; rw [hv, hcd] at this; exact this : Calls Tryz.prog 23 #[.pointer (some ⟨l.a, 0, none⟩), .int .u64 a] wz fun e w' => e = .returned (.tuple #[.int .u64 v, .int .u8 cd]) ∧ w' = wz))
  have HRq : Hid (rsG cd v 0 = (stR (abE S) 0 a b c).1) := hid (by rw [← hv, ← hcd]; exact rd0)
  clear hv hcd
  clear h
  go_enter Tryz.func13, Tryz.ntmps13
  go_upto_region 1 with fail
  (try simp only [World.size_alloc, hp, hr])
  generalize hw1 : World.alloc (w.alloc _) _ = w1 at H0 ⊢
  clear hw1 hp hr
  obtain ⟨c0, c1, c2, c3⟩ := H0.out.cells
  have HC := hid (H0.out.pure (HK.out w1 H0.out.am))
  go_wp2_with fail
  refine HC.out.mono ?_
  rintro e w2 ⟨rfl, H1⟩
  clear HC H0 c0 c1 c2 c3
  obtain ⟨c0, c1, c2, c3⟩ := H1.out.cells
  have HC := hid (H1.out.bel (giveZ v 0 cd w2))
  go_wp2_with fail
  refine HC.out.mono ?_
  rintro e w3 ⟨rfl, H2⟩
  clear HC H1 c0 c1 c2 c3
  obtain ⟨c0, c1, c2, c3⟩ := H2.out.cells
  clear c0 c1 c2 c3
  go_wp2_with (refine wpList_store_blk rfl 46 _ _ rfl r rfl (rsG cd v 0) rfl H2.out.rb (by first | rfl | (rw [rsG_len]; rfl)) (by first | exact I0.out | (rw [rsG_len]; exact I0.out)) (rsG_one _ _ _) ?_; intro w9 HB9 HU9)
  refine bodyPost_ret (results_blk (cs := rsG cd v 0) Tryz.results13 rfl (by first | exact agg_rs | (rw [rsG_len]; exact agg_rs)) HB9.out) rfl ?_
  exact PyE.mk rfl (HRq.out) (H2.out.done HU9.out)
set_option maxRecDepth 100000 in
set_option maxHeartbeats 8000000 in
theorem px42 (h : AM l S w) (a b c : Int) (ha : U64 a) (hb : U64 b) (hc : U64 c) : Calls Tryz.prog 13 #[.pointer (some ⟨l.a, 0, none⟩), .agg #[.int .u8 42, .int .u64 a, .int .u64 b, .int .u64 c]] w (PyE l S w (stR (abE S) 42 a b c).1) := by
  have I0 := hid info_rs
  obtain ⟨p, hp⟩ : ∃ p, w.heap.size = p := ⟨_, rfl⟩
  obtain ⟨r, hr⟩ : ∃ r, p + 1 = r := ⟨_, rfl⟩
  have H0 : Hid (PX l S w p r [.int .u8 42, .int .u64 a, .int .u64 b, .int .u64 c] ((w.alloc (.cells #[.int .u8 42, .int .u64 a, .int .u64 b, .int .u64 c] 31)).alloc (.cells #[.int .u8 0, .int .u64 0, .int .u64 0, .string { data := #[] }, .int .i64 0, .int .i64 0, .int .i64 0, .int .i64 0, .int .i64 0, .int .i64 0, .int .i64 0, .int .i64 0, .int .i64 0, .int .i64 0, .int .i64 0, .int .i64 0, .int .i64 0, .int .i64 0, .int .i64 0, .int .i64 0, .int .u8 0, .int .i64 0, .int .i64 0, .int .i64 0, .int .i64 0, .int .i64 0, .int .i64 0, .int .i64 0, .int .i64 0, .int .i64 0, .int .i64 0, .int .i64 0, .int .i64 0, .int .i64 0, .int .i64 0] 46))) := hid (PX.start h hp hr)
  obtain ⟨R, hR⟩ : ∃ R, refAtA S a = R := ⟨_, rfl⟩
  have HRd : Hid (¬ InH a → R.2 = 1) := hid (fun hi => by rw [← hR]; unfold refAtA; rw [if_neg hi])
  have HK := hid (fun wz (hz : AM l S wz) => (by have := refAtZ hz a; rw [hR] at this; exact this : Calls Tryz.prog 62 #[.pointer (some ⟨l.a, 0, none⟩), .int .u64 a] wz fun e w' => e = .returned (.tuple #[.int .u64 R.1, .int .u8 R.2]) ∧ w' = wz))
  have HRq : Hid (rsG R.2 R.1 0 = (stR (abE S) 42 a b c).1) := hid (by rw [← hR]; exact rd42)
  clear hR
  clear h
  go_enter Tryz.func13, Tryz.ntmps13
  go_upto_region 1 with fail
  (try simp only [World.size_alloc, hp, hr])
  generalize hw1 : World.alloc (w.alloc _) _ = w1 at H0 ⊢
  clear hw1 hp hr
  obtain ⟨c0, c1, c2, c3⟩ := H0.out.cells
  have HC := hid (H0.out.pure (HK.out w1 H0.out.am))
  go_wp2_with fail
  refine HC.out.mono ?_
  rintro e w2 ⟨rfl, H1⟩
  clear HC H0 c0 c1 c2 c3
  obtain ⟨c0, c1, c2, c3⟩ := H1.out.cells
  have HC := hid (H1.out.bel (giveZ R.1 0 R.2 w2))
  go_wp2_with fail
  refine HC.out.mono ?_
  rintro e w3 ⟨rfl, H2⟩
  clear HC H1 c0 c1 c2 c3
  obtain ⟨c0, c1, c2, c3⟩ := H2.out.cells
  clear c0 c1 c2 c3
  go_wp2_with (refine wpList_store_blk rfl 46 _ _ rfl r rfl (rsG R.2 R.1 0) rfl H2.out.rb (by first | rfl | (rw [rsG_len]; rfl)) (by first | exact I0.out | (rw [rsG_len]; exact I0.out)) (rsG_one _ _ _) ?_; intro w9 HB9 HU9)
  refine bodyPost_ret (results_blk (cs := rsG R.2 R.1 0) Tryz.results13 rfl (by first | exact agg_rs | (rw [rsG_len]; exact agg_rs)) HB9.out) rfl ?_
  exact PyE.mk rfl (HRq.out) (H2.out.done HU9.out)
set_option maxRecDepth 100000 in
set_option maxHeartbeats 8000000 in
theorem px3 (h : AM l S w) (a b c : Int) (ha : U64 a) (hb : U64 b) (hc : U64 c) : Calls Tryz.prog 13 #[.pointer (some ⟨l.a, 0, none⟩), .agg #[.int .u8 3, .int .u64 a, .int .u64 b, .int .u64 c]] w (PyE l S w (stR (abE S) 3 a b c).1) := by
  have I0 := hid info_rs
  obtain ⟨p, hp⟩ : ∃ p, w.heap.size = p := ⟨_, rfl⟩
  obtain ⟨r, hr⟩ : ∃ r, p + 1 = r := ⟨_, rfl⟩
  have H0 : Hid (PX l S w p r [.int .u8 3, .int .u64 a, .int .u64 b, .int .u64 c] ((w.alloc (.cells #[.int .u8 3, .int .u64 a, .int .u64 b, .int .u64 c] 31)).alloc (.cells #[.int .u8 0, .int .u64 0, .int .u64 0, .string { data := #[] }, .int .i64 0, .int .i64 0, .int .i64 0, .int .i64 0, .int .i64 0, .int .i64 0, .int .i64 0, .int .i64 0, .int .i64 0, .int .i64 0, .int .i64 0, .int .i64 0, .int .i64 0, .int .i64 0, .int .i64 0, .int .i64 0, .int .u8 0, .int .i64 0, .int .i64 0, .int .i64 0, .int .i64 0, .int .i64 0, .int .i64 0, .int .i64 0, .int .i64 0, .int .i64 0, .int .i64 0, .int .i64 0, .int .i64 0, .int .i64 0, .int .i64 0] 46))) := hid (PX.start h hp hr)
  obtain ⟨nb, hnb⟩ : ∃ n, nbI b = n := ⟨_, rfl⟩
  have HNnb : Hid (∀ wz, Calls Tryz.prog 26 #[.int .u64 b] wz fun e w' => e = .returned (.int .i64 nb) ∧ w' = wz) := hid (fun wz => by
    have := number_walk b hb wz
    rw [show wrap64 b = nb from hnb] at this
    exact this)
  obtain ⟨cd, hcd⟩ : ∃ cd, wrCd a nb = cd := ⟨_, rfl⟩
  have HRd : Hid (¬ InH a → cd = 1) := hid (fun hi => by rw [← hcd]; unfold wrCd; rw [if_neg hi])
  have HK := hid (fun wz (hz : AM l S wz) => (by have := isZeroX hz a nb; rw [hcd] at this; exact this : Calls Tryz.prog 60 #[.pointer (some ⟨l.a, 0, none⟩), .int .u64 a, .int .i64 nb] wz fun e w' => ∃ z : Bool, e = .returned (.tuple #[.bool z, .int .u8 cd]) ∧ w' = wz ∧ Hid (cd = 0 → (z = true ↔ ∀ i, i < nb.toNat → S.W (wIx a + i) = 0))))
  have HCd := hid hcd
  have HNb_ := hid hnb
  clear hcd hnb
  clear h
  go_enter Tryz.func13, Tryz.ntmps13
  go_upto_region 1 with fail
  (try simp only [World.size_alloc, hp, hr])
  generalize hw1 : World.alloc (w.alloc _) _ = w1 at H0 ⊢
  clear hw1 hp hr
  obtain ⟨c0, c1, c2, c3⟩ := H0.out.cells
  have HC := hid (H0.out.pure (HNnb.out w1))
  go_wp2_with fail
  refine HC.out.mono ?_
  rintro e w2 ⟨rfl, H1⟩
  clear HC H0 c0 c1 c2 c3
  obtain ⟨c0, c1, c2, c3⟩ := H1.out.cells
  have HC := hid (HK.out w2 H1.out.am)
  go_wp2_with fail
  refine HC.out.mono ?_
  rintro e w3 ⟨z, rfl, hw_, HZz⟩
  have H2 := hid H1.out
  rw [← hw_] at H2
  clear hw_
  clear HC H1 c0 c1 c2 c3
  obtain ⟨c0, c1, c2, c3⟩ := H2.out.cells
  have HC := hid (H2.out.pure (flagZ z w3))
  go_wp2_with fail
  refine HC.out.mono ?_
  rintro e w4 ⟨rfl, H3⟩
  clear HC H2 c0 c1 c2 c3
  obtain ⟨c0, c1, c2, c3⟩ := H3.out.cells
  have HC := hid (H3.out.bel (giveZ ((bitN z : Nat) : Int) 0 cd w4))
  go_wp2_with fail
  refine HC.out.mono ?_
  rintro e w5 ⟨rfl, H4⟩
  clear HC H3 c0 c1 c2 c3
  obtain ⟨c0, c1, c2, c3⟩ := H4.out.cells
  clear c0 c1 c2 c3
  go_wp2_with (refine wpList_store_blk rfl 46 _ _ rfl r rfl (rsG cd ((bitN z : Nat) : Int) 0) rfl H4.out.rb (by first | rfl | (rw [rsG_len]; rfl)) (by first | exact I0.out | (rw [rsG_len]; exact I0.out)) (rsG_one _ _ _) ?_; intro w9 HB9 HU9)
  refine bodyPost_ret (results_blk (cs := rsG cd ((bitN z : Nat) : Int) 0) Tryz.results13 rfl (by first | exact agg_rs | (rw [rsG_len]; exact agg_rs)) HB9.out) rfl ?_
  exact PyE.mk rfl (rd3 HCd.out HNb_.out HZz.out) (H4.out.done HU9.out)
set_option maxRecDepth 100000 in
set_option maxHeartbeats 8000000 in
theorem px9 (h : AM l S w) (a b c : Int) (ha : U64 a) (hb : U64 b) (hc : U64 c) : Calls Tryz.prog 13 #[.pointer (some ⟨l.a, 0, none⟩), .agg #[.int .u8 9, .int .u64 a, .int .u64 b, .int .u64 c]] w (PyE l S w (stR (abE S) 9 a b c).1) := by
  have I0 := hid info_rs
  obtain ⟨p, hp⟩ : ∃ p, w.heap.size = p := ⟨_, rfl⟩
  obtain ⟨r, hr⟩ : ∃ r, p + 1 = r := ⟨_, rfl⟩
  have H0 : Hid (PX l S w p r [.int .u8 9, .int .u64 a, .int .u64 b, .int .u64 c] ((w.alloc (.cells #[.int .u8 9, .int .u64 a, .int .u64 b, .int .u64 c] 31)).alloc (.cells #[.int .u8 0, .int .u64 0, .int .u64 0, .string { data := #[] }, .int .i64 0, .int .i64 0, .int .i64 0, .int .i64 0, .int .i64 0, .int .i64 0, .int .i64 0, .int .i64 0, .int .i64 0, .int .i64 0, .int .i64 0, .int .i64 0, .int .i64 0, .int .i64 0, .int .i64 0, .int .i64 0, .int .u8 0, .int .i64 0, .int .i64 0, .int .i64 0, .int .i64 0, .int .i64 0, .int .i64 0, .int .i64 0, .int .i64 0, .int .i64 0, .int .i64 0, .int .i64 0, .int .i64 0, .int .i64 0, .int .i64 0] 46))) := hid (PX.start h hp hr)
  obtain ⟨nb, hnb⟩ : ∃ n, nbI b = n := ⟨_, rfl⟩
  have HNnb : Hid (∀ wz, Calls Tryz.prog 26 #[.int .u64 b] wz fun e w' => e = .returned (.int .i64 nb) ∧ w' = wz) := hid (fun wz => by
    have := number_walk b hb wz
    rw [show wrap64 b = nb from hnb] at this
    exact this)
  obtain ⟨R, hR⟩ : ∃ R, arFieldAddrV S a nb = R := ⟨_, rfl⟩
  have HRd : Hid (wantO a ≠ 0 → R.2 = wantO a) := hid (fun hi => by rw [← hR]; unfold arFieldAddrV; rw [if_neg (by rw [onC_bad hi]; exact hi), onC_bad hi])
  have HK := hid (fun wz (hz : AM l S wz) => (by have := arFieldAddrZ hz a nb; rw [hR] at this; exact this : Calls Tryz.prog 69 #[.pointer (some ⟨l.a, 0, none⟩), .int .u64 a, .int .i64 nb] wz fun e w' => e = .returned (.tuple #[.int .u64 R.1, .int .u8 R.2]) ∧ Below wz.heap.size wz w'))
  have HRq : Hid (rsG R.2 R.1 0 = (stR (abE S) 9 a b c).1) := hid (by rw [← hR, ← hnb]; exact rd9 h.sok)
  clear hR hnb
  clear h
  go_enter Tryz.func13, Tryz.ntmps13
  go_upto_region 1 with fail
  (try simp only [World.size_alloc, hp, hr])
  generalize hw1 : World.alloc (w.alloc _) _ = w1 at H0 ⊢
  clear hw1 hp hr
  obtain ⟨c0, c1, c2, c3⟩ := H0.out.cells
  have HC := hid (H0.out.pure (HNnb.out w1))
  go_wp2_with fail
  refine HC.out.mono ?_
  rintro e w2 ⟨rfl, H1⟩
  clear HC H0 c0 c1 c2 c3
  obtain ⟨c0, c1, c2, c3⟩ := H1.out.cells
  have HC := hid (H1.out.bel (HK.out w2 H1.out.am))
  go_wp2_with fail
  refine HC.out.mono ?_
  rintro e w3 ⟨rfl, H2⟩
  clear HC H1 c0 c1 c2 c3
  obtain ⟨c0, c1, c2, c3⟩ := H2.out.cells
  have HC := hid (H2.out.bel (giveZ R.1 0 R.2 w3))
  go_wp2_with fail
  refine HC.out.mono ?_
  rintro e w4 ⟨rfl, H3⟩
  clear HC H2 c0 c1 c2 c3
  obtain ⟨c0, c1, c2, c3⟩ := H3.out.cells
  clear c0 c1 c2 c3
  go_wp2_with (refine wpList_store_blk rfl 46 _ _ rfl r rfl (rsG R.2 R.1 0) rfl H3.out.rb (by first | rfl | (rw [rsG_len]; rfl)) (by first | exact I0.out | (rw [rsG_len]; exact I0.out)) (rsG_one _ _ _) ?_; intro w9 HB9 HU9)
  refine bodyPost_ret (results_blk (cs := rsG R.2 R.1 0) Tryz.results13 rfl (by first | exact agg_rs | (rw [rsG_len]; exact agg_rs)) HB9.out) rfl ?_
  exact PyE.mk rfl (HRq.out) (H3.out.done HU9.out)
set_option maxRecDepth 100000 in
set_option maxHeartbeats 8000000 in
theorem px10 (h : AM l S w) (a b c : Int) (ha : U64 a) (hb : U64 b) (hc : U64 c) : Calls Tryz.prog 13 #[.pointer (some ⟨l.a, 0, none⟩), .agg #[.int .u8 10, .int .u64 a, .int .u64 b, .int .u64 c]] w (PyE l S w (stR (abE S) 10 a b c).1) := by
  have I0 := hid info_rs
  obtain ⟨p, hp⟩ : ∃ p, w.heap.size = p := ⟨_, rfl⟩
  obtain ⟨r, hr⟩ : ∃ r, p + 1 = r := ⟨_, rfl⟩
  have H0 : Hid (PX l S w p r [.int .u8 10, .int .u64 a, .int .u64 b, .int .u64 c] ((w.alloc (.cells #[.int .u8 10, .int .u64 a, .int .u64 b, .int .u64 c] 31)).alloc (.cells #[.int .u8 0, .int .u64 0, .int .u64 0, .string { data := #[] }, .int .i64 0, .int .i64 0, .int .i64 0, .int .i64 0, .int .i64 0, .int .i64 0, .int .i64 0, .int .i64 0, .int .i64 0, .int .i64 0, .int .i64 0, .int .i64 0, .int .i64 0, .int .i64 0, .int .i64 0, .int .i64 0, .int .u8 0, .int .i64 0, .int .i64 0, .int .i64 0, .int .i64 0, .int .i64 0, .int .i64 0, .int .i64 0, .int .i64 0, .int .i64 0, .int .i64 0, .int .i64 0, .int .i64 0, .int .i64 0, .int .i64 0] 46))) := hid (PX.start h hp hr)
  obtain ⟨nb, hnb⟩ : ∃ n, nbI b = n := ⟨_, rfl⟩
  have HNnb : Hid (∀ wz, Calls Tryz.prog 26 #[.int .u64 b] wz fun e w' => e = .returned (.int .i64 nb) ∧ w' = wz) := hid (fun wz => by
    have := number_walk b hb wz
    rw [show wrap64 b = nb from hnb] at this
    exact this)
  obtain ⟨R, hR⟩ : ∃ R, arDataAddrV S a nb = R := ⟨_, rfl⟩
  have HRd : Hid (wantO a ≠ 0 → R.2 = wantO a) := hid (fun hi => by rw [← hR]; unfold arDataAddrV; rw [if_neg (by rw [onC_bad hi]; exact hi), onC_bad hi])
  have HK := hid (fun wz (hz : AM l S wz) => (by have := arDataAddrZ hz a nb; rw [hR] at this; exact this : Calls Tryz.prog 70 #[.pointer (some ⟨l.a, 0, none⟩), .int .u64 a, .int .i64 nb] wz fun e w' => e = .returned (.tuple #[.int .u64 R.1, .int .u8 R.2]) ∧ Below wz.heap.size wz w'))
  have HRq : Hid (rsG R.2 R.1 0 = (stR (abE S) 10 a b c).1) := hid (by rw [← hR, ← hnb]; exact rd10 h.sok)
  clear hR hnb
  clear h
  go_enter Tryz.func13, Tryz.ntmps13
  go_upto_region 1 with fail
  (try simp only [World.size_alloc, hp, hr])
  generalize hw1 : World.alloc (w.alloc _) _ = w1 at H0 ⊢
  clear hw1 hp hr
  obtain ⟨c0, c1, c2, c3⟩ := H0.out.cells
  have HC := hid (H0.out.pure (HNnb.out w1))
  go_wp2_with fail
  refine HC.out.mono ?_
  rintro e w2 ⟨rfl, H1⟩
  clear HC H0 c0 c1 c2 c3
  obtain ⟨c0, c1, c2, c3⟩ := H1.out.cells
  have HC := hid (H1.out.bel (HK.out w2 H1.out.am))
  go_wp2_with fail
  refine HC.out.mono ?_
  rintro e w3 ⟨rfl, H2⟩
  clear HC H1 c0 c1 c2 c3
  obtain ⟨c0, c1, c2, c3⟩ := H2.out.cells
  have HC := hid (H2.out.bel (giveZ R.1 0 R.2 w3))
  go_wp2_with fail
  refine HC.out.mono ?_
  rintro e w4 ⟨rfl, H3⟩
  clear HC H2 c0 c1 c2 c3
  obtain ⟨c0, c1, c2, c3⟩ := H3.out.cells
  clear c0 c1 c2 c3
  go_wp2_with (refine wpList_store_blk rfl 46 _ _ rfl r rfl (rsG R.2 R.1 0) rfl H3.out.rb (by first | rfl | (rw [rsG_len]; rfl)) (by first | exact I0.out | (rw [rsG_len]; exact I0.out)) (rsG_one _ _ _) ?_; intro w9 HB9 HU9)
  refine bodyPost_ret (results_blk (cs := rsG R.2 R.1 0) Tryz.results13 rfl (by first | exact agg_rs | (rw [rsG_len]; exact agg_rs)) HB9.out) rfl ?_
  exact PyE.mk rfl (HRq.out) (H3.out.done HU9.out)
set_option maxRecDepth 100000 in
set_option maxHeartbeats 8000000 in
theorem px11 (h : AM l S w) (a b c : Int) (ha : U64 a) (hb : U64 b) (hc : U64 c) : Calls Tryz.prog 13 #[.pointer (some ⟨l.a, 0, none⟩), .agg #[.int .u8 11, .int .u64 a, .int .u64 b, .int .u64 c]] w (PyE l S w (stR (abE S) 11 a b c).1) := by
  have I0 := hid info_rs
  obtain ⟨p, hp⟩ : ∃ p, w.heap.size = p := ⟨_, rfl⟩
  obtain ⟨r, hr⟩ : ∃ r, p + 1 = r := ⟨_, rfl⟩
  have H0 : Hid (PX l S w p r [.int .u8 11, .int .u64 a, .int .u64 b, .int .u64 c] ((w.alloc (.cells #[.int .u8 11, .int .u64 a, .int .u64 b, .int .u64 c] 31)).alloc (.cells #[.int .u8 0, .int .u64 0, .int .u64 0, .string { data := #[] }, .int .i64 0, .int .i64 0, .int .i64 0, .int .i64 0, .int .i64 0, .int .i64 0, .int .i64 0, .int .i64 0, .int .i64 0, .int .i64 0, .int .i64 0, .int .i64 0, .int .i64 0, .int .i64 0, .int .i64 0, .int .i64 0, .int .u8 0, .int .i64 0, .int .i64 0, .int .i64 0, .int .i64 0, .int .i64 0, .int .i64 0, .int .i64 0, .int .i64 0, .int .i64 0, .int .i64 0, .int .i64 0, .int .i64 0, .int .i64 0, .int .i64 0] 46))) := hid (PX.start h hp hr)
  obtain ⟨nb, hnb⟩ : ∃ n, nbI b = n := ⟨_, rfl⟩
  have HNnb : Hid (∀ wz, Calls Tryz.prog 26 #[.int .u64 b] wz fun e w' => e = .returned (.int .i64 nb) ∧ w' = wz) := hid (fun wz => by
    have := number_walk b hb wz
    rw [show wrap64 b = nb from hnb] at this
    exact this)
  obtain ⟨R, hR⟩ : ∃ R, arLoadRefV S a nb = R := ⟨_, rfl⟩
  have HRd : Hid (wantO a ≠ 0 → R.2 = wantO a) := hid (fun hi => by rw [← hR]; unfold arLoadRefV; rw [if_neg (by rw [onC_bad hi]; exact hi), onC_bad hi])
  have HK := hid (fun wz (hz : AM l S wz) => (by have := arLoadRefZ hz a nb; rw [hR] at this; exact this : Calls Tryz.prog 28 #[.pointer (some ⟨l.a, 0, none⟩), .int .u64 a, .int .i64 nb] wz fun e w' => e = .returned (.tuple #[.int .u64 R.1, .int .u8 R.2]) ∧ Below wz.heap.size wz w'))
  have HRq : Hid (rsG R.2 R.1 0 = (stR (abE S) 11 a b c).1) := hid (by rw [← hR, ← hnb]; exact rd11 h.sok)
  clear hR hnb
  clear h
  go_enter Tryz.func13, Tryz.ntmps13
  go_upto_region 1 with fail
  (try simp only [World.size_alloc, hp, hr])
  generalize hw1 : World.alloc (w.alloc _) _ = w1 at H0 ⊢
  clear hw1 hp hr
  obtain ⟨c0, c1, c2, c3⟩ := H0.out.cells
  have HC := hid (H0.out.pure (HNnb.out w1))
  go_wp2_with fail
  refine HC.out.mono ?_
  rintro e w2 ⟨rfl, H1⟩
  clear HC H0 c0 c1 c2 c3
  obtain ⟨c0, c1, c2, c3⟩ := H1.out.cells
  have HC := hid (H1.out.bel (HK.out w2 H1.out.am))
  go_wp2_with fail
  refine HC.out.mono ?_
  rintro e w3 ⟨rfl, H2⟩
  clear HC H1 c0 c1 c2 c3
  obtain ⟨c0, c1, c2, c3⟩ := H2.out.cells
  have HC := hid (H2.out.bel (giveZ R.1 0 R.2 w3))
  go_wp2_with fail
  refine HC.out.mono ?_
  rintro e w4 ⟨rfl, H3⟩
  clear HC H2 c0 c1 c2 c3
  obtain ⟨c0, c1, c2, c3⟩ := H3.out.cells
  clear c0 c1 c2 c3
  go_wp2_with (refine wpList_store_blk rfl 46 _ _ rfl r rfl (rsG R.2 R.1 0) rfl H3.out.rb (by first | rfl | (rw [rsG_len]; rfl)) (by first | exact I0.out | (rw [rsG_len]; exact I0.out)) (rsG_one _ _ _) ?_; intro w9 HB9 HU9)
  refine bodyPost_ret (results_blk (cs := rsG R.2 R.1 0) Tryz.results13 rfl (by first | exact agg_rs | (rw [rsG_len]; exact agg_rs)) HB9.out) rfl ?_
  exact PyE.mk rfl (HRq.out) (H3.out.done HU9.out)
set_option maxRecDepth 100000 in
set_option maxHeartbeats 8000000 in
theorem px13 (h : AM l S w) (a b c : Int) (ha : U64 a) (hb : U64 b) (hc : U64 c) : Calls Tryz.prog 13 #[.pointer (some ⟨l.a, 0, none⟩), .agg #[.int .u8 13, .int .u64 a, .int .u64 b, .int .u64 c]] w (PyE l S w (stR (abE S) 13 a b c).1) := by
  have I0 := hid info_rs
  obtain ⟨p, hp⟩ : ∃ p, w.heap.size = p := ⟨_, rfl⟩
  obtain ⟨r, hr⟩ : ∃ r, p + 1 = r := ⟨_, rfl⟩
  have H0 : Hid (PX l S w p r [.int .u8 13, .int .u64 a, .int .u64 b, .int .u64 c] ((w.alloc (.cells #[.int .u8 13, .int .u64 a, .int .u64 b, .int .u64 c] 31)).alloc (.cells #[.int .u8 0, .int .u64 0, .int .u64 0, .string { data := #[] }, .int .i64 0, .int .i64 0, .int .i64 0, .int .i64 0, .int .i64 0, .int .i64 0, .int .i64 0, .int .i64 0, .int .i64 0, .int .i64 0, .int .i64 0, .int .i64 0, .int .i64 0, .int .i64 0, .int .i64 0, .int .i64 0, .int .u8 0, .int .i64 0, .int .i64 0, .int .i64 0, .int .i64 0, .int .i64 0, .int .i64 0, .int .i64 0, .int .i64 0, .int .i64 0, .int .i64 0, .int .i64 0, .int .i64 0, .int .i64 0, .int .i64 0] 46))) := hid (PX.start h hp hr)
  obtain ⟨nb, hnb⟩ : ∃ n, nbI b = n := ⟨_, rfl⟩
  have HNnb : Hid (∀ wz, Calls Tryz.prog 26 #[.int .u64 b] wz fun e w' => e = .returned (.int .i64 nb) ∧ w' = wz) := hid (fun wz => by
    have := number_walk b hb wz
    rw [show wrap64 b = nb from hnb] at this
    exact this)
  obtain ⟨R, hR⟩ : ∃ R, arLoadDataV S a nb = R := ⟨_, rfl⟩
  have HRd : Hid (wantO a ≠ 0 → R.2 = wantO a) := hid (fun hi => by rw [← hR]; unfold arLoadDataV; rw [if_neg (by rw [onC_bad hi]; exact hi), onC_bad hi])
  have HK := hid (fun wz (hz : AM l S wz) => (by have := arLoadDataZ hz a nb; rw [hR] at this; exact this : Calls Tryz.prog 30 #[.pointer (some ⟨l.a, 0, none⟩), .int .u64 a, .int .i64 nb] wz fun e w' => e = .returned (.tuple #[.int .u64 R.1, .int .u8 R.2]) ∧ Below wz.heap.size wz w'))
  have HRq : Hid (rsG R.2 R.1 0 = (stR (abE S) 13 a b c).1) := hid (by rw [← hR, ← hnb]; exact rd13 h.sok)
  clear hR hnb
  clear h
  go_enter Tryz.func13, Tryz.ntmps13
  go_upto_region 1 with fail
  (try simp only [World.size_alloc, hp, hr])
  generalize hw1 : World.alloc (w.alloc _) _ = w1 at H0 ⊢
  clear hw1 hp hr
  obtain ⟨c0, c1, c2, c3⟩ := H0.out.cells
  have HC := hid (H0.out.pure (HNnb.out w1))
  go_wp2_with fail
  refine HC.out.mono ?_
  rintro e w2 ⟨rfl, H1⟩
  clear HC H0 c0 c1 c2 c3
  obtain ⟨c0, c1, c2, c3⟩ := H1.out.cells
  have HC := hid (H1.out.bel (HK.out w2 H1.out.am))
  go_wp2_with fail
  refine HC.out.mono ?_
  rintro e w3 ⟨rfl, H2⟩
  clear HC H1 c0 c1 c2 c3
  obtain ⟨c0, c1, c2, c3⟩ := H2.out.cells
  have HC := hid (H2.out.bel (giveZ R.1 0 R.2 w3))
  go_wp2_with fail
  refine HC.out.mono ?_
  rintro e w4 ⟨rfl, H3⟩
  clear HC H2 c0 c1 c2 c3
  obtain ⟨c0, c1, c2, c3⟩ := H3.out.cells
  clear c0 c1 c2 c3
  go_wp2_with (refine wpList_store_blk rfl 46 _ _ rfl r rfl (rsG R.2 R.1 0) rfl H3.out.rb (by first | rfl | (rw [rsG_len]; rfl)) (by first | exact I0.out | (rw [rsG_len]; exact I0.out)) (rsG_one _ _ _) ?_; intro w9 HB9 HU9)
  refine bodyPost_ret (results_blk (cs := rsG R.2 R.1 0) Tryz.results13 rfl (by first | exact agg_rs | (rw [rsG_len]; exact agg_rs)) HB9.out) rfl ?_
  exact PyE.mk rfl (HRq.out) (H3.out.done HU9.out)
end
end Go.Proofs.Qxb6500887aGreat
