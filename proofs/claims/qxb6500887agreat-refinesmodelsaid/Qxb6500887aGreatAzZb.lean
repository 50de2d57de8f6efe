/- Steps of play: writers (written by tools/mk_azzb.py). -/
import Derived.Test.Qxb6500887aGreatAzZa
namespace Go.Proofs.Qxb6500887aGreat
open Go.RowKit
set_option linter.unusedSimpArgs false
set_option linter.unusedVariables false
section
variable {l : AL} {S S' : AS} {w w' w0 : World}
theorem smallV_b {b : Int} (hb : U64 b) : 0 ≤ smallV b ∧ smallV b ≤ 255 := by
  unfold smallV
  have := hb.1
  split <;> omega
set_option maxRecDepth 100000 in
set_option maxHeartbeats 8000000 in
theorem pl1 (h : AM l S w) (a b c : Int) (ha : U64 a) (hb : U64 b) (hc : U64 c) : Calls Tryz.prog 13 #[.pointer (some ⟨l.a, 0, none⟩), .agg #[.int .u8 1, .int .u64 a, .int .u64 b, .int .u64 c]] w (PyP l S w 1 a b c) := by
  have I0 := hid info_rs
  obtain ⟨p, hp⟩ : ∃ p, w.heap.size = p := ⟨_, rfl⟩
  obtain ⟨r, hr⟩ : ∃ r, p + 1 = r := ⟨_, rfl⟩
  have H0 : Hid (PX l S w p r [.int .u8 1, .int .u64 a, .int .u64 b, .int .u64 c] ((w.alloc (.cells #[.int .u8 1, .int .u64 a, .int .u64 b, .int .u64 c] 31)).alloc (.cells #[.int .u8 0, .int .u64 0, .int .u64 0, .string { data := #[] }, .int .i64 0, .int .i64 0, .int .i64 0, .int .i64 0, .int .i64 0, .int .i64 0, .int .i64 0, .int .i64 0, .int .i64 0, .int .i64 0, .int .i64 0, .int .i64 0, .int .i64 0, .int .i64 0, .int .i64 0, .int .i64 0, .int .u8 0, .int .i64 0, .int .i64 0, .int .i64 0, .int .i64 0, .int .i64 0, .int .i64 0, .int .i64 0, .int .i64 0, .int .i64 0, .int .i64 0, .int .i64 0, .int .i64 0, .int .i64 0, .int .i64 0] 46))) := hid (PX.start h hp hr)
  obtain ⟨R, hR⟩ : ∃ R, storeA S a b = R := ⟨_, rfl⟩
  have HPl : Hid (plW S 1 a b c = some (R.1, 0, R.2)) := hid (by rw [← hR]; rfl)
  have HU : Hid (∀ wz, AM l S wz → Calls Tryz.prog 58 #[.pointer (some ⟨l.a, 0, none⟩), .int .u64 a, .int .u64 b] wz fun e w' => e = .returned (.int .u8 R.1) ∧ Hid (AU l wz R.2 w')) := hid (fun wz hz => by
    have := storeZ hz a b hb
    rw [hR] at this
    exact this)
  clear h hR
  go_enter Tryz.func13, Tryz.ntmps13
  go_upto_region 1 with fail
  (try simp only [World.size_alloc, hp, hr])
  generalize hw1 : World.alloc (w.alloc _) _ = w1 at H0 ⊢
  clear hw1 hp hr
  obtain ⟨c0, c1, c2, c3⟩ := H0.out.cells
  have HC := hid (H0.out.upd (HU.out w1 H0.out.am))
  go_wp2_with fail
  refine HC.out.mono ?_
  rintro e w2 ⟨rfl, H1⟩
  clear HC H0 c0 c1 c2 c3
  obtain ⟨c0, c1, c2, c3⟩ := H1.out.cells
  have HC := hid (H1.out.bel (refuse_walk R.1 w2))
  go_wp2_with fail
  refine HC.out.mono ?_
  rintro e w3 ⟨rfl, H2⟩
  clear HC H1 c0 c1 c2 c3
  obtain ⟨c0, c1, c2, c3⟩ := H2.out.cells
  clear c0 c1 c2 c3
  go_wp2_with (refine wpList_store_blk rfl 46 _ _ rfl r rfl (rsC R.1 0 0) rfl H2.out.rb (by first | rfl | (rw [show (rsC R.1 0 0).length = 35 from rfl]; rfl)) (by first | exact I0.out | (rw [show (rsC R.1 0 0).length = 35 from rfl]; exact I0.out)) (rsC_one _ _ _) ?_; intro w9 HB9 HU9)
  refine bodyPost_ret (results_blk (cs := rsC R.1 0 0) Tryz.results13 rfl (by first | exact agg_rs | (rw [show (rsC R.1 0 0).length = 35 from rfl]; exact agg_rs)) HB9.out) rfl ?_
  exact PyP.mk rfl (RsOk.c _ _ _) (H2.out.done HU9.out) (by rw [← rsG_r]; exact PlR.wr HPl.out)
set_option maxRecDepth 100000 in
set_option maxHeartbeats 8000000 in
theorem pl2 (h : AM l S w) (a b c : Int) (ha : U64 a) (hb : U64 b) (hc : U64 c) : Calls Tryz.prog 13 #[.pointer (some ⟨l.a, 0, none⟩), .agg #[.int .u8 2, .int .u64 a, .int .u64 b, .int .u64 c]] w (PyP l S w 2 a b c) := by
  have I0 := hid info_rs
  obtain ⟨p, hp⟩ : ∃ p, w.heap.size = p := ⟨_, rfl⟩
  obtain ⟨r, hr⟩ : ∃ r, p + 1 = r := ⟨_, rfl⟩
  have H0 : Hid (PX l S w p r [.int .u8 2, .int .u64 a, .int .u64 b, .int .u64 c] ((w.alloc (.cells #[.int .u8 2, .int .u64 a, .int .u64 b, .int .u64 c] 31)).alloc (.cells #[.int .u8 0, .int .u64 0, .int .u64 0, .string { data := #[] }, .int .i64 0, .int .i64 0, .int .i64 0, .int .i64 0, .int .i64 0, .int .i64 0, .int .i64 0, .int .i64 0, .int .i64 0, .int .i64 0, .int .i64 0, .int .i64 0, .int .i64 0, .int .i64 0, .int .i64 0, .int .i64 0, .int .u8 0, .int .i64 0, .int .i64 0, .int .i64 0, .int .i64 0, .int .i64 0, .int .i64 0, .int .i64 0, .int .i64 0, .int .i64 0, .int .i64 0, .int .i64 0, .int .i64 0, .int .i64 0, .int .i64 0] 46))) := hid (PX.start h hp hr)
  obtain ⟨nb, hnb⟩ : ∃ n, nbI b = n := ⟨_, rfl⟩
  have HNnb : Hid (∀ wz, Calls Tryz.prog 26 #[.int .u64 b] wz fun e w' => e = .returned (.int .i64 nb) ∧ w' = wz) := hid (fun wz => by
    have := number_walk b hb wz
    rw [show wrap64 b = nb from hnb] at this
    exact this)
  obtain ⟨R, hR⟩ : ∃ R, zeroA S a nb = R := ⟨_, rfl⟩
  have HPl : Hid (plW S 2 a b c = some (R.1, 0, R.2)) := hid (by rw [← hR, ← hnb]; rfl)
  have HU : Hid (∀ wz, AM l S wz → Calls Tryz.prog 59 #[.pointer (some ⟨l.a, 0, none⟩), .int .u64 a, .int .i64 nb] wz fun e w' => e = .returned (.int .u8 R.1) ∧ Hid (AU l wz R.2 w')) := hid (fun wz hz => by
    have := zeroAZ hz a nb
    rw [hR] at this
    exact this)
  clear h hR
  go_enter Tryz.func13, Tryz.ntmps13
  go_upto_region 1 with fail
  (try simp only [World.size_alloc, hp, hr])
  generalize hw1 : World.alloc (w.alloc _) _ = w1 at H0 ⊢
  clear hw1 hp hr
  obtain ⟨c0, c1, c2, c3⟩ := H0.out.cells
  have HC := hid (H0.out.pure (HNnb.out w1))
  go_wp2_with fail
  refine HC.out.mono ?_
  rintro e w2 ⟨rfl, H1⟩
  clear HC H0 c0 c1 c2 c3
  obtain ⟨c0, c1, c2, c3⟩ := H1.out.cells
  have HC := hid (H1.out.upd (HU.out w2 H1.out.am))
  go_wp2_with fail
  refine HC.out.mono ?_
  rintro e w3 ⟨rfl, H2⟩
  clear HC H1 c0 c1 c2 c3
  obtain ⟨c0, c1, c2, c3⟩ := H2.out.cells
  have HC := hid (H2.out.bel (refuse_walk R.1 w3))
  go_wp2_with fail
  refine HC.out.mono ?_
  rintro e w4 ⟨rfl, H3⟩
  clear HC H2 c0 c1 c2 c3
  obtain ⟨c0, c1, c2, c3⟩ := H3.out.cells
  clear c0 c1 c2 c3
  go_wp2_with (refine wpList_store_blk rfl 46 _ _ rfl r rfl (rsC R.1 0 0) rfl H3.out.rb (by first | rfl | (rw [show (rsC R.1 0 0).length = 35 from rfl]; rfl)) (by first | exact I0.out | (rw [show (rsC R.1 0 0).length = 35 from rfl]; exact I0.out)) (rsC_one _ _ _) ?_; intro w9 HB9 HU9)
  refine bodyPost_ret (results_blk (cs := rsC R.1 0 0) Tryz.results13 rfl (by first | exact agg_rs | (rw [show (rsC R.1 0 0).length = 35 from rfl]; exact agg_rs)) HB9.out) rfl ?_
  exact PyP.mk rfl (RsOk.c _ _ _) (H3.out.done HU9.out) (by rw [← rsG_r]; exact PlR.wr HPl.out)
set_option maxRecDepth 100000 in
set_option maxHeartbeats 8000000 in
theorem pl43 (h : AM l S w) (a b c : Int) (ha : U64 a) (hb : U64 b) (hc : U64 c) : Calls Tryz.prog 13 #[.pointer (some ⟨l.a, 0, none⟩), .agg #[.int .u8 43, .int .u64 a, .int .u64 b, .int .u64 c]] w (PyP l S w 43 a b c) := by
  have I0 := hid info_rs
  obtain ⟨p, hp⟩ : ∃ p, w.heap.size = p := ⟨_, rfl⟩
  obtain ⟨r, hr⟩ : ∃ r, p + 1 = r := ⟨_, rfl⟩
  have H0 : Hid (PX l S w p r [.int .u8 43, .int .u64 a, .int .u64 b, .int .u64 c] ((w.alloc (.cells #[.int .u8 43, .int .u64 a, .int .u64 b, .int .u64 c] 31)).alloc (.cells #[.int .u8 0, .int .u64 0, .int .u64 0, .string { data := #[] }, .int .i64 0, .int .i64 0, .int .i64 0, .int .i64 0, .int .i64 0, .int .i64 0, .int .i64 0, .int .i64 0, .int .i64 0, .int .i64 0, .int .i64 0, .int .i64 0, .int .i64 0, .int .i64 0, .int .i64 0, .int .i64 0, .int .u8 0, .int .i64 0, .int .i64 0, .int .i64 0, .int .i64 0, .int .i64 0, .int .i64 0, .int .i64 0, .int .i64 0, .int .i64 0, .int .i64 0, .int .i64 0, .int .i64 0, .int .i64 0, .int .i64 0] 46))) := hid (PX.start h hp hr)
  obtain ⟨R, hR⟩ : ∃ R, setRefAtA S a b = R := ⟨_, rfl⟩
  have HPl : Hid (plW S 43 a b c = some (R.1, 0, R.2)) := hid (by rw [← hR]; rfl)
  have HU : Hid (∀ wz, AM l S wz → Calls Tryz.prog 63 #[.pointer (some ⟨l.a, 0, none⟩), .int .u64 a, .int .u64 b] wz fun e w' => e = .returned (.int .u8 R.1) ∧ Hid (AU l wz R.2 w')) := hid (fun wz hz => by
    have := setRefAtZ hz a b hb
    rw [hR] at this
    exact this)
  clear h hR
  go_enter Tryz.func13, Tryz.ntmps13
  go_upto_region 1 with fail
  (try simp only [World.size_alloc, hp, hr])
  generalize hw1 : World.alloc (w.alloc _) _ = w1 at H0 ⊢
  clear hw1 hp hr
  obtain ⟨c0, c1, c2, c3⟩ := H0.out.cells
  have HC := hid (H0.out.upd (HU.out w1 H0.out.am))
  go_wp2_with fail
  refine HC.out.mono ?_
  rintro e w2 ⟨rfl, H1⟩
  clear HC H0 c0 c1 c2 c3
  obtain ⟨c0, c1, c2, c3⟩ := H1.out.cells
  have HC := hid (H1.out.bel (refuse_walk R.1 w2))
  go_wp2_with fail
  refine HC.out.mono ?_
  rintro e w3 ⟨rfl, H2⟩
  clear HC H1 c0 c1 c2 c3
  obtain ⟨c0, c1, c2, c3⟩ := H2.out.cells
  clear c0 c1 c2 c3
  go_wp2_with (refine wpList_store_blk rfl 46 _ _ rfl r rfl (rsC R.1 0 0) rfl H2.out.rb (by first | rfl | (rw [show (rsC R.1 0 0).length = 35 from rfl]; rfl)) (by first | exact I0.out | (rw [show (rsC R.1 0 0).length = 35 from rfl]; exact I0.out)) (rsC_one _ _ _) ?_; intro w9 HB9 HU9)
  refine bodyPost_ret (results_blk (cs := rsC R.1 0 0) Tryz.results13 rfl (by first | exact agg_rs | (rw [show (rsC R.1 0 0).length = 35 from rfl]; exact agg_rs)) HB9.out) rfl ?_
  exact PyP.mk rfl (RsOk.c _ _ _) (H2.out.done HU9.out) (by rw [← rsG_r]; exact PlR.wr HPl.out)
set_option maxRecDepth 100000 in
set_option maxHeartbeats 8000000 in
theorem pl8 (h : AM l S w) (a b c : Int) (ha : U64 a) (hb : U64 b) (hc : U64 c) : Calls Tryz.prog 13 #[.pointer (some ⟨l.a, 0, none⟩), .agg #[.int .u8 8, .int .u64 a, .int .u64 b, .int .u64 c]] w (PyP l S w 8 a b c) := by
  have I0 := hid info_rs
  obtain ⟨p, hp⟩ : ∃ p, w.heap.size = p := ⟨_, rfl⟩
  obtain ⟨r, hr⟩ : ∃ r, p + 1 = r := ⟨_, rfl⟩
  have H0 : Hid (PX l S w p r [.int .u8 8, .int .u64 a, .int .u64 b, .int .u64 c] ((w.alloc (.cells #[.int .u8 8, .int .u64 a, .int .u64 b, .int .u64 c] 31)).alloc (.cells #[.int .u8 0, .int .u64 0, .int .u64 0, .string { data := #[] }, .int .i64 0, .int .i64 0, .int .i64 0, .int .i64 0, .int .i64 0, .int .i64 0, .int .i64 0, .int .i64 0, .int .i64 0, .int .i64 0, .int .i64 0, .int .i64 0, .int .i64 0, .int .i64 0, .int .i64 0, .int .i64 0, .int .u8 0, .int .i64 0, .int .i64 0, .int .i64 0, .int .i64 0, .int .i64 0, .int .i64 0, .int .i64 0, .int .i64 0, .int .i64 0, .int .i64 0, .int .i64 0, .int .i64 0, .int .i64 0, .int .i64 0] 46))) := hid (PX.start h hp hr)
  obtain ⟨R, hR⟩ : ∃ R, eraseA S a = R := ⟨_, rfl⟩
  have HPl : Hid (plW S 8 a b c = some (R.1, 0, R.2)) := hid (by rw [← hR]; rfl)
  have HU : Hid (∀ wz, AM l S wz → Calls Tryz.prog 68 #[.pointer (some ⟨l.a, 0, none⟩), .int .u64 a] wz fun e w' => e = .returned (.int .u8 R.1) ∧ Hid (AU l wz R.2 w')) := hid (fun wz hz => by
    have := eraseZ hz a
    rw [hR] at this
    exact this)
  clear h hR
  go_enter Tryz.func13, Tryz.ntmps13
  go_upto_region 1 with fail
  (try simp only [World.size_alloc, hp, hr])
  generalize hw1 : World.alloc (w.alloc _) _ = w1 at H0 ⊢
  clear hw1 hp hr
  obtain ⟨c0, c1, c2, c3⟩ := H0.out.cells
  have HC := hid (H0.out.upd (HU.out w1 H0.out.am))
  go_wp2_with fail
  refine HC.out.mono ?_
  rintro e w2 ⟨rfl, H1⟩
  clear HC H0 c0 c1 c2 c3
  obtain ⟨c0, c1, c2, c3⟩ := H1.out.cells
  have HC := hid (H1.out.bel (refuse_walk R.1 w2))
  go_wp2_with fail
  refine HC.out.mono ?_
  rintro e w3 ⟨rfl, H2⟩
  clear HC H1 c0 c1 c2 c3
  obtain ⟨c0, c1, c2, c3⟩ := H2.out.cells
  clear c0 c1 c2 c3
  go_wp2_with (refine wpList_store_blk rfl 46 _ _ rfl r rfl (rsC R.1 0 0) rfl H2.out.rb (by first | rfl | (rw [show (rsC R.1 0 0).length = 35 from rfl]; rfl)) (by first | exact I0.out | (rw [show (rsC R.1 0 0).length = 35 from rfl]; exact I0.out)) (rsC_one _ _ _) ?_; intro w9 HB9 HU9)
  refine bodyPost_ret (results_blk (cs := rsC R.1 0 0) Tryz.results13 rfl (by first | exact agg_rs | (rw [show (rsC R.1 0 0).length = 35 from rfl]; exact agg_rs)) HB9.out) rfl ?_
  exact PyP.mk rfl (RsOk.c _ _ _) (H2.out.done HU9.out) (by rw [← rsG_r]; exact PlR.wr HPl.out)
set_option maxRecDepth 100000 in
set_option maxHeartbeats 8000000 in
theorem pl17 (h : AM l S w) (a b c : Int) (ha : U64 a) (hb : U64 b) (hc : U64 c) : Calls Tryz.prog 13 #[.pointer (some ⟨l.a, 0, none⟩), .agg #[.int .u8 17, .int .u64 a, .int .u64 b, .int .u64 c]] w (PyP l S w 17 a b c) := by
  have I0 := hid info_rs
  obtain ⟨p, hp⟩ : ∃ p, w.heap.size = p := ⟨_, rfl⟩
  obtain ⟨r, hr⟩ : ∃ r, p + 1 = r := ⟨_, rfl⟩
  have H0 : Hid (PX l S w p r [.int .u8 17, .int .u64 a, .int .u64 b, .int .u64 c] ((w.alloc (.cells #[.int .u8 17, .int .u64 a, .int .u64 b, .int .u64 c] 31)).alloc (.cells #[.int .u8 0, .int .u64 0, .int .u64 0, .string { data := #[] }, .int .i64 0, .int .i64 0, .int .i64 0, .int .i64 0, .int .i64 0, .int .i64 0, .int .i64 0, .int .i64 0, .int .i64 0, .int .i64 0, .int .i64 0, .int .i64 0, .int .i64 0, .int .i64 0, .int .i64 0, .int .i64 0, .int .u8 0, .int .i64 0, .int .i64 0, .int .i64 0, .int .i64 0, .int .i64 0, .int .i64 0, .int .i64 0, .int .i64 0, .int .i64 0, .int .i64 0, .int .i64 0, .int .i64 0, .int .i64 0, .int .i64 0] 46))) := hid (PX.start h hp hr)
  obtain ⟨sv, hsv⟩ : ∃ sv, smallV b = sv := ⟨_, rfl⟩
  have HSv : Hid (∀ wz, Calls Tryz.prog 75 #[.int .u64 b] wz fun e w' => e = .returned (.int .u8 sv) ∧ w' = wz) := hid (fun wz => by have := smallV_walk b hb wz; rw [hsv] at this; exact this)
  obtain ⟨R, hR⟩ : ∃ R, setCountA S a sv = R := ⟨_, rfl⟩
  have HPl : Hid (plW S 17 a b c = some (R.1, 0, R.2)) := hid (by rw [← hR, ← hsv]; rfl)
  have HU : Hid (∀ wz, AM l S wz → Calls Tryz.prog 74 #[.pointer (some ⟨l.a, 0, none⟩), .int .u64 a, .int .u8 sv] wz fun e w' => e = .returned (.int .u8 R.1) ∧ Hid (AU l wz R.2 w')) := hid (fun wz hz => by
    have := by have := setCountZ hz a (smallV b) (smallV_b hb).1 (smallV_b hb).2; rw [hsv] at this; exact this
    rw [hR] at this
    exact this)
  clear h hR
  go_enter Tryz.func13, Tryz.ntmps13
  go_upto_region 1 with fail
  (try simp only [World.size_alloc, hp, hr])
  generalize hw1 : World.alloc (w.alloc _) _ = w1 at H0 ⊢
  clear hw1 hp hr
  obtain ⟨c0, c1, c2, c3⟩ := H0.out.cells
  have HC := hid (H0.out.pure (HSv.out w1))
  go_wp2_with fail
  refine HC.out.mono ?_
  rintro e w2 ⟨rfl, H1⟩
  clear HC H0 c0 c1 c2 c3
  obtain ⟨c0, c1, c2, c3⟩ := H1.out.cells
  have HC := hid (H1.out.upd (HU.out w2 H1.out.am))
  go_wp2_with fail
  refine HC.out.mono ?_
  rintro e w3 ⟨rfl, H2⟩
  clear HC H1 c0 c1 c2 c3
  obtain ⟨c0, c1, c2, c3⟩ := H2.out.cells
  have HC := hid (H2.out.bel (refuse_walk R.1 w3))
  go_wp2_with fail
  refine HC.out.mono ?_
  rintro e w4 ⟨rfl, H3⟩
  clear HC H2 c0 c1 c2 c3
  obtain ⟨c0, c1, c2, c3⟩ := H3.out.cells
  clear c0 c1 c2 c3
  go_wp2_with (refine wpList_store_blk rfl 46 _ _ rfl r rfl (rsC R.1 0 0) rfl H3.out.rb (by first | rfl | (rw [show (rsC R.1 0 0).length = 35 from rfl]; rfl)) (by first | exact I0.out | (rw [show (rsC R.1 0 0).length = 35 from rfl]; exact I0.out)) (rsC_one _ _ _) ?_; intro w9 HB9 HU9)
  refine bodyPost_ret (results_blk (cs := rsC R.1 0 0) Tryz.results13 rfl (by first | exact agg_rs | (rw [show (rsC R.1 0 0).length = 35 from rfl]; exact agg_rs)) HB9.out) rfl ?_
  exact PyP.mk rfl (RsOk.c _ _ _) (H3.out.done HU9.out) (by rw [← rsG_r]; exact PlR.wr HPl.out)
set_option maxRecDepth 100000 in
set_option maxHeartbeats 8000000 in
theorem pl19 (h : AM l S w) (a b c : Int) (ha : U64 a) (hb : U64 b) (hc : U64 c) : Calls Tryz.prog 13 #[.pointer (some ⟨l.a, 0, none⟩), .agg #[.int .u8 19, .int .u64 a, .int .u64 b, .int .u64 c]] w (PyP l S w 19 a b c) := by
  have I0 := hid info_rs
  obtain ⟨p, hp⟩ : ∃ p, w.heap.size = p := ⟨_, rfl⟩
  obtain ⟨r, hr⟩ : ∃ r, p + 1 = r := ⟨_, rfl⟩
  have H0 : Hid (PX l S w p r [.int .u8 19, .int .u64 a, .int .u64 b, .int .u64 c] ((w.alloc (.cells #[.int .u8 19, .int .u64 a, .int .u64 b, .int .u64 c] 31)).alloc (.cells #[.int .u8 0, .int .u64 0, .int .u64 0, .string { data := #[] }, .int .i64 0, .int .i64 0, .int .i64 0, .int .i64 0, .int .i64 0, .int .i64 0, .int .i64 0, .int .i64 0, .int .i64 0, .int .i64 0, .int .i64 0, .int .i64 0, .int .i64 0, .int .i64 0, .int .i64 0, .int .i64 0, .int .u8 0, .int .i64 0, .int .i64 0, .int .i64 0, .int .i64 0, .int .i64 0, .int .i64 0, .int .i64 0, .int .i64 0, .int .i64 0, .int .i64 0, .int .i64 0, .int .i64 0, .int .i64 0, .int .i64 0] 46))) := hid (PX.start h hp hr)
  obtain ⟨bb, hbb⟩ : ∃ bb, (b != 0) = bb := ⟨_, rfl⟩
  have hbb' : (!(b == 0)) = bb := hbb
  obtain ⟨R, hR⟩ : ∃ R, setLoggedA S a bb = R := ⟨_, rfl⟩
  have HPl : Hid (plW S 19 a b c = some (R.1, 0, R.2)) := hid (by rw [← hR, ← hbb]; rfl)
  have HU : Hid (∀ wz, AM l S wz → Calls Tryz.prog 82 #[.pointer (some ⟨l.a, 0, none⟩), .int .u64 a, .bool bb] wz fun e w' => e = .returned (.int .u8 R.1) ∧ Hid (AU l wz R.2 w')) := hid (fun wz hz => by
    have := setLoggedZ hz a bb
    rw [hR] at this
    exact this)
  clear h hR
  go_enter Tryz.func13, Tryz.ntmps13
  go_upto_region 1 with fail
  (try simp only [World.size_alloc, hp, hr])
  generalize hw1 : World.alloc (w.alloc _) _ = w1 at H0 ⊢
  clear hw1 hp hr
  obtain ⟨c0, c1, c2, c3⟩ := H0.out.cells
  have HC := hid (H0.out.upd (HU.out w1 H0.out.am))
  go_wp2_with fail
  refine HC.out.mono ?_
  rintro e w2 ⟨rfl, H1⟩
  clear HC H0 c0 c1 c2 c3
  obtain ⟨c0, c1, c2, c3⟩ := H1.out.cells
  have HC := hid (H1.out.bel (refuse_walk R.1 w2))
  go_wp2_with fail
  refine HC.out.mono ?_
  rintro e w3 ⟨rfl, H2⟩
  clear HC H1 c0 c1 c2 c3
  obtain ⟨c0, c1, c2, c3⟩ := H2.out.cells
  clear c0 c1 c2 c3
  go_wp2_with (refine wpList_store_blk rfl 46 _ _ rfl r rfl (rsC R.1 0 0) rfl H2.out.rb (by first | rfl | (rw [show (rsC R.1 0 0).length = 35 from rfl]; rfl)) (by first | exact I0.out | (rw [show (rsC R.1 0 0).length = 35 from rfl]; exact I0.out)) (rsC_one _ _ _) ?_; intro w9 HB9 HU9)
  refine bodyPost_ret (results_blk (cs := rsC R.1 0 0) Tryz.results13 rfl (by first | exact agg_rs | (rw [show (rsC R.1 0 0).length = 35 from rfl]; exact agg_rs)) HB9.out) rfl ?_
  exact PyP.mk rfl (RsOk.c _ _ _) (H2.out.done HU9.out) (by rw [← rsG_r]; exact PlR.wr HPl.out)
set_option maxRecDepth 100000 in
set_option maxHeartbeats 8000000 in
theorem pl24 (h : AM l S w) (a b c : Int) (ha : U64 a) (hb : U64 b) (hc : U64 c) : Calls Tryz.prog 13 #[.pointer (some ⟨l.a, 0, none⟩), .agg #[.int .u8 24, .int .u64 a, .int .u64 b, .int .u64 c]] w (PyP l S w 24 a b c) := by
  have I0 := hid info_rs
  obtain ⟨p, hp⟩ : ∃ p, w.heap.size = p := ⟨_, rfl⟩
  obtain ⟨r, hr⟩ : ∃ r, p + 1 = r := ⟨_, rfl⟩
  have H0 : Hid (PX l S w p r [.int .u8 24, .int .u64 a, .int .u64 b, .int .u64 c] ((w.alloc (.cells #[.int .u8 24, .int .u64 a, .int .u64 b, .int .u64 c] 31)).alloc (.cells #[.int .u8 0, .int .u64 0, .int .u64 0, .string { data := #[] }, .int .i64 0, .int .i64 0, .int .i64 0, .int .i64 0, .int .i64 0, .int .i64 0, .int .i64 0, .int .i64 0, .int .i64 0, .int .i64 0, .int .i64 0, .int .i64 0, .int .i64 0, .int .i64 0, .int .i64 0, .int .i64 0, .int .u8 0, .int .i64 0, .int .i64 0, .int .i64 0, .int .i64 0, .int .i64 0, .int .i64 0, .int .i64 0, .int .i64 0, .int .i64 0, .int .i64 0, .int .i64 0, .int .i64 0, .int .i64 0, .int .i64 0] 46))) := hid (PX.start h hp hr)
  obtain ⟨bb, hbb⟩ : ∃ bb, (b != 0) = bb := ⟨_, rfl⟩
  have hbb' : (!(b == 0)) = bb := hbb
  obtain ⟨R, hR⟩ : ∃ R, setMarkedA S a bb = R := ⟨_, rfl⟩
  have HPl : Hid (plW S 24 a b c = some (R.1, 0, R.2)) := hid (by rw [← hR, ← hbb]; rfl)
  have HU : Hid (∀ wz, AM l S wz → Calls Tryz.prog 77 #[.pointer (some ⟨l.a, 0, none⟩), .int .u64 a, .bool bb] wz fun e w' => e = .returned (.int .u8 R.1) ∧ Hid (AU l wz R.2 w')) := hid (fun wz hz => by
    have := setMarkedZ hz a bb
    rw [hR] at this
    exact this)
  clear h hR
  go_enter Tryz.func13, Tryz.ntmps13
  go_upto_region 1 with fail
  (try simp only [World.size_alloc, hp, hr])
  generalize hw1 : World.alloc (w.alloc _) _ = w1 at H0 ⊢
  clear hw1 hp hr
  obtain ⟨c0, c1, c2, c3⟩ := H0.out.cells
  have HC := hid (H0.out.upd (HU.out w1 H0.out.am))
  go_wp2_with fail
  refine HC.out.mono ?_
  rintro e w2 ⟨rfl, H1⟩
  clear HC H0 c0 c1 c2 c3
  obtain ⟨c0, c1, c2, c3⟩ := H1.out.cells
  have HC := hid (H1.out.bel (refuse_walk R.1 w2))
  go_wp2_with fail
  refine HC.out.mono ?_
  rintro e w3 ⟨rfl, H2⟩
  clear HC H1 c0 c1 c2 c3
  obtain ⟨c0, c1, c2, c3⟩ := H2.out.cells
  clear c0 c1 c2 c3
  go_wp2_with (refine wpList_store_blk rfl 46 _ _ rfl r rfl (rsC R.1 0 0) rfl H2.out.rb (by first | rfl | (rw [show (rsC R.1 0 0).length = 35 from rfl]; rfl)) (by first | exact I0.out | (rw [show (rsC R.1 0 0).length = 35 from rfl]; exact I0.out)) (rsC_one _ _ _) ?_; intro w9 HB9 HU9)
  refine bodyPost_ret (results_blk (cs := rsC R.1 0 0) Tryz.results13 rfl (by first | exact agg_rs | (rw [show (rsC R.1 0 0).length = 35 from rfl]; exact agg_rs)) HB9.out) rfl ?_
  exact PyP.mk rfl (RsOk.c _ _ _) (H2.out.done HU9.out) (by rw [← rsG_r]; exact PlR.wr HPl.out)
set_option maxRecDepth 100000 in
set_option maxHeartbeats 8000000 in
theorem pl27 (h : AM l S w) (a b c : Int) (ha : U64 a) (hb : U64 b) (hc : U64 c) : Calls Tryz.prog 13 #[.pointer (some ⟨l.a, 0, none⟩), .agg #[.int .u8 27, .int .u64 a, .int .u64 b, .int .u64 c]] w (PyP l S w 27 a b c) := by
  have I0 := hid info_rs
  obtain ⟨p, hp⟩ : ∃ p, w.heap.size = p := ⟨_, rfl⟩
  obtain ⟨r, hr⟩ : ∃ r, p + 1 = r := ⟨_, rfl⟩
  have H0 : Hid (PX l S w p r [.int .u8 27, .int .u64 a, .int .u64 b, .int .u64 c] ((w.alloc (.cells #[.int .u8 27, .int .u64 a, .int .u64 b, .int .u64 c] 31)).alloc (.cells #[.int .u8 0, .int .u64 0, .int .u64 0, .string { data := #[] }, .int .i64 0, .int .i64 0, .int .i64 0, .int .i64 0, .int .i64 0, .int .i64 0, .int .i64 0, .int .i64 0, .int .i64 0, .int .i64 0, .int .i64 0, .int .i64 0, .int .i64 0, .int .i64 0, .int .i64 0, .int .i64 0, .int .u8 0, .int .i64 0, .int .i64 0, .int .i64 0, .int .i64 0, .int .i64 0, .int .i64 0, .int .i64 0, .int .i64 0, .int .i64 0, .int .i64 0, .int .i64 0, .int .i64 0, .int .i64 0, .int .i64 0] 46))) := hid (PX.start h hp hr)
  obtain ⟨na, hna⟩ : ∃ n, nbI a = n := ⟨_, rfl⟩
  have HNna : Hid (∀ wz, Calls Tryz.prog 26 #[.int .u64 a] wz fun e w' => e = .returned (.int .i64 na) ∧ w' = wz) := hid (fun wz => by
    have := number_walk a ha wz
    rw [show wrap64 a = na from hna] at this
    exact this)
  obtain ⟨R, hR⟩ : ∃ R, cmBlockA S na = R := ⟨_, rfl⟩
  have HPl : Hid (plW S 27 a b c = some (R.1, 0, R.2)) := hid (by rw [← hR, ← hna]; rfl)
  have HU : Hid (∀ wz, AM l S wz → Calls Tryz.prog 80 #[.pointer (some ⟨l.a, 0, none⟩), .int .i64 na] wz fun e w' => e = .returned (.int .u8 R.1) ∧ Hid (AU l wz R.2 w')) := hid (fun wz hz => by
    have := cmBlockZ hz na
    rw [hR] at this
    exact this)
  clear h hR
  go_enter Tryz.func13, Tryz.ntmps13
  go_upto_region 1 with fail
  (try simp only [World.size_alloc, hp, hr])
  generalize hw1 : World.alloc (w.alloc _) _ = w1 at H0 ⊢
  clear hw1 hp hr
  obtain ⟨c0, c1, c2, c3⟩ := H0.out.cells
  have HC := hid (H0.out.pure (HNna.out w1))
  go_wp2_with fail
  refine HC.out.mono ?_
  rintro e w2 ⟨rfl, H1⟩
  clear HC H0 c0 c1 c2 c3
  obtain ⟨c0, c1, c2, c3⟩ := H1.out.cells
  have HC := hid (H1.out.upd (HU.out w2 H1.out.am))
  go_wp2_with fail
  refine HC.out.mono ?_
  rintro e w3 ⟨rfl, H2⟩
  clear HC H1 c0 c1 c2 c3
  obtain ⟨c0, c1, c2, c3⟩ := H2.out.cells
  have HC := hid (H2.out.bel (refuse_walk R.1 w3))
  go_wp2_with fail
  refine HC.out.mono ?_
  rintro e w4 ⟨rfl, H3⟩
  clear HC H2 c0 c1 c2 c3
  obtain ⟨c0, c1, c2, c3⟩ := H3.out.cells
  clear c0 c1 c2 c3
  go_wp2_with (refine wpList_store_blk rfl 46 _ _ rfl r rfl (rsC R.1 0 0) rfl H3.out.rb (by first | rfl | (rw [show (rsC R.1 0 0).length = 35 from rfl]; rfl)) (by first | exact I0.out | (rw [show (rsC R.1 0 0).length = 35 from rfl]; exact I0.out)) (rsC_one _ _ _) ?_; intro w9 HB9 HU9)
  refine bodyPost_ret (results_blk (cs := rsC R.1 0 0) Tryz.results13 rfl (by first | exact agg_rs | (rw [show (rsC R.1 0 0).length = 35 from rfl]; exact agg_rs)) HB9.out) rfl ?_
  exact PyP.mk rfl (RsOk.c _ _ _) (H3.out.done HU9.out) (by rw [← rsG_r]; exact PlR.wr HPl.out)
set_option maxRecDepth 100000 in
set_option maxHeartbeats 8000000 in
theorem pl20 (h : AM l S w) (a b c : Int) (ha : U64 a) (hb : U64 b) (hc : U64 c) : Calls Tryz.prog 13 #[.pointer (some ⟨l.a, 0, none⟩), .agg #[.int .u8 20, .int .u64 a, .int .u64 b, .int .u64 c]] w (PyP l S w 20 a b c) := by
  have I0 := hid info_rs
  obtain ⟨p, hp⟩ : ∃ p, w.heap.size = p := ⟨_, rfl⟩
  obtain ⟨r, hr⟩ : ∃ r, p + 1 = r := ⟨_, rfl⟩
  have H0 : Hid (PX l S w p r [.int .u8 20, .int .u64 a, .int .u64 b, .int .u64 c] ((w.alloc (.cells #[.int .u8 20, .int .u64 a, .int .u64 b, .int .u64 c] 31)).alloc (.cells #[.int .u8 0, .int .u64 0, .int .u64 0, .string { data := #[] }, .int .i64 0, .int .i64 0, .int .i64 0, .int .i64 0, .int .i64 0, .int .i64 0, .int .i64 0, .int .i64 0, .int .i64 0, .int .i64 0, .int .i64 0, .int .i64 0, .int .i64 0, .int .i64 0, .int .i64 0, .int .i64 0, .int .u8 0, .int .i64 0, .int .i64 0, .int .i64 0, .int .i64 0, .int .i64 0, .int .i64 0, .int .i64 0, .int .i64 0, .int .i64 0, .int .i64 0, .int .i64 0, .int .i64 0, .int .i64 0, .int .i64 0] 46))) := hid (PX.start h hp hr)
  obtain ⟨bb, hbb⟩ : ∃ bb : Bool, (if wantW a = 0 then !(((eN 1 64 S.L (wIx a) : Nat) : Int) == 0) else false) = bb := ⟨_, rfl⟩
  obtain ⟨cd, hcd⟩ : ∃ cd, wantW a = cd := ⟨_, rfl⟩
  have HPl : Hid (plW S 20 a b c = some (cd, ((bitN bb : Nat) : Int), tasLoggedA S a)) := hid (by rw [← hbb, ← hcd]; rfl)
  have HU : Hid (∀ wz, AM l S wz → Calls Tryz.prog 83 #[.pointer (some ⟨l.a, 0, none⟩), .int .u64 a] wz fun e w' => e = .returned (.tuple #[.bool bb, .int .u8 cd]) ∧ Hid (AU l wz (tasLoggedA S a) w')) := hid (fun wz hz => by
    have := tasLoggedZ hz a
    rw [hbb, hcd] at this
    exact this)
  clear h hbb hcd
  go_enter Tryz.func13, Tryz.ntmps13
  go_upto_region 1 with fail
  (try simp only [World.size_alloc, hp, hr])
  generalize hw1 : World.alloc (w.alloc _) _ = w1 at H0 ⊢
  clear hw1 hp hr
  obtain ⟨c0, c1, c2, c3⟩ := H0.out.cells
  have HC := hid (H0.out.upd (HU.out w1 H0.out.am))
  go_wp2_with fail
  refine HC.out.mono ?_
  rintro e w2 ⟨rfl, H1⟩
  clear HC H0 c0 c1 c2 c3
  obtain ⟨c0, c1, c2, c3⟩ := H1.out.cells
  have HC := hid (H1.out.pure (flagZ bb w2))
  go_wp2_with fail
  refine HC.out.mono ?_
  rintro e w3 ⟨rfl, H2⟩
  clear HC H1 c0 c1 c2 c3
  obtain ⟨c0, c1, c2, c3⟩ := H2.out.cells
  have HC := hid (H2.out.bel (giveZ ((bitN bb : Nat) : Int) 0 cd w3))
  go_wp2_with fail
  refine HC.out.mono ?_
  rintro e w4 ⟨rfl, H3⟩
  clear HC H2 c0 c1 c2 c3
  obtain ⟨c0, c1, c2, c3⟩ := H3.out.cells
  clear c0 c1 c2 c3
  go_wp2_with (refine wpList_store_blk rfl 46 _ _ rfl r rfl (rsG cd ((bitN bb : Nat) : Int) 0) rfl H3.out.rb (by first | rfl | (rw [rsG_len]; rfl)) (by first | exact I0.out | (rw [rsG_len]; exact I0.out)) (rsG_one _ _ _) ?_; intro w9 HB9 HU9)
  refine bodyPost_ret (results_blk (cs := rsG cd ((bitN bb : Nat) : Int) 0) Tryz.results13 rfl (by first | exact agg_rs | (rw [rsG_len]; exact agg_rs)) HB9.out) rfl ?_
  exact PyP.mk rfl (RsOk.g _ _ _) (H3.out.done HU9.out) (PlR.wr HPl.out)
set_option maxRecDepth 100000 in
set_option maxHeartbeats 8000000 in
theorem pl25 (h : AM l S w) (a b c : Int) (ha : U64 a) (hb : U64 b) (hc : U64 c) : Calls Tryz.prog 13 #[.pointer (some ⟨l.a, 0, none⟩), .agg #[.int .u8 25, .int .u64 a, .int .u64 b, .int .u64 c]] w (PyP l S w 25 a b c) := by
  have I0 := hid info_rs
  obtain ⟨p, hp⟩ : ∃ p, w.heap.size = p := ⟨_, rfl⟩
  obtain ⟨r, hr⟩ : ∃ r, p + 1 = r := ⟨_, rfl⟩
  have H0 : Hid (PX l S w p r [.int .u8 25, .int .u64 a, .int .u64 b, .int .u64 c] ((w.alloc (.cells #[.int .u8 25, .int .u64 a, .int .u64 b, .int .u64 c] 31)).alloc (.cells #[.int .u8 0, .int .u64 0, .int .u64 0, .string { data := #[] }, .int .i64 0, .int .i64 0, .int .i64 0, .int .i64 0, .int .i64 0, .int .i64 0, .int .i64 0, .int .i64 0, .int .i64 0, .int .i64 0, .int .i64 0, .int .i64 0, .int .i64 0, .int .i64 0, .int .i64 0, .int .i64 0, .int .u8 0, .int .i64 0, .int .i64 0, .int .i64 0, .int .i64 0, .int .i64 0, .int .i64 0, .int .i64 0, .int .i64 0, .int .i64 0, .int .i64 0, .int .i64 0, .int .i64 0, .int .i64 0, .int .i64 0] 46))) := hid (PX.start h hp hr)
  obtain ⟨bb, hbb⟩ : ∃ bb : Bool, (if wantO a = 0 then !(((eN 1 64 S.M (gIx a) : Nat) : Int) == 0) else false) = bb := ⟨_, rfl⟩
  obtain ⟨cd, hcd⟩ : ∃ cd, wantO a = cd := ⟨_, rfl⟩
  have HPl : Hid (plW S 25 a b c = some (cd, ((bitN bb : Nat) : Int), tasMarkedA S a)) := hid (by rw [← hbb, ← hcd]; rfl)
  have HU : Hid (∀ wz, AM l S wz → Calls Tryz.prog 78 #[.pointer (some ⟨l.a, 0, none⟩), .int .u64 a] wz fun e w' => e = .returned (.tuple #[.bool bb, .int .u8 cd]) ∧ Hid (AU l wz (tasMarkedA S a) w')) := hid (fun wz hz => by
    have := tasMarkedZ hz a
    rw [hbb, hcd] at this
    exact this)
  clear h hbb hcd
  go_enter Tryz.func13, Tryz.ntmps13
  go_upto_region 1 with fail
  (try simp only [World.size_alloc, hp, hr])
  generalize hw1 : World.alloc (w.alloc _) _ = w1 at H0 ⊢
  clear hw1 hp hr
  obtain ⟨c0, c1, c2, c3⟩ := H0.out.cells
  have HC := hid (H0.out.upd (HU.out w1 H0.out.am))
  go_wp2_with fail
  refine HC.out.mono ?_
  rintro e w2 ⟨rfl, H1⟩
  clear HC H0 c0 c1 c2 c3
  obtain ⟨c0, c1, c2, c3⟩ := H1.out.cells
  have HC := hid (H1.out.pure (flagZ bb w2))
  go_wp2_with fail
  refine HC.out.mono ?_
  rintro e w3 ⟨rfl, H2⟩
  clear HC H1 c0 c1 c2 c3
  obtain ⟨c0, c1, c2, c3⟩ := H2.out.cells
  have HC := hid (H2.out.bel (giveZ ((bitN bb : Nat) : Int) 0 cd w3))
  go_wp2_with fail
  refine HC.out.mono ?_
  rintro e w4 ⟨rfl, H3⟩
  clear HC H2 c0 c1 c2 c3
  obtain ⟨c0, c1, c2, c3⟩ := H3.out.cells
  clear c0 c1 c2 c3
  go_wp2_with (refine wpList_store_blk rfl 46 _ _ rfl r rfl (rsG cd ((bitN bb : Nat) : Int) 0) rfl H3.out.rb (by first | rfl | (rw [rsG_len]; rfl)) (by first | exact I0.out | (rw [rsG_len]; exact I0.out)) (rsG_one _ _ _) ?_; intro w9 HB9 HU9)
  refine bodyPost_ret (results_blk (cs := rsG cd ((bitN bb : Nat) : Int) 0) Tryz.results13 rfl (by first | exact agg_rs | (rw [rsG_len]; exact agg_rs)) HB9.out) rfl ?_
  exact PyP.mk rfl (RsOk.g _ _ _) (H3.out.done HU9.out) (PlR.wr HPl.out)
set_option maxRecDepth 100000 in
set_option maxHeartbeats 8000000 in
theorem pl22 (h : AM l S w) (a b c : Int) (ha : U64 a) (hb : U64 b) (hc : U64 c) : Calls Tryz.prog 13 #[.pointer (some ⟨l.a, 0, none⟩), .agg #[.int .u8 22, .int .u64 a, .int .u64 b, .int .u64 c]] w (PyP l S w 22 a b c) := by
  have I0 := hid info_rs
  obtain ⟨p, hp⟩ : ∃ p, w.heap.size = p := ⟨_, rfl⟩
  obtain ⟨r, hr⟩ : ∃ r, p + 1 = r := ⟨_, rfl⟩
  have H0 : Hid (PX l S w p r [.int .u8 22, .int .u64 a, .int .u64 b, .int .u64 c] ((w.alloc (.cells #[.int .u8 22, .int .u64 a, .int .u64 b, .int .u64 c] 31)).alloc (.cells #[.int .u8 0, .int .u64 0, .int .u64 0, .string { data := #[] }, .int .i64 0, .int .i64 0, .int .i64 0, .int .i64 0, .int .i64 0, .int .i64 0, .int .i64 0, .int .i64 0, .int .i64 0, .int .i64 0, .int .i64 0, .int .i64 0, .int .i64 0, .int .i64 0, .int .i64 0, .int .i64 0, .int .u8 0, .int .i64 0, .int .i64 0, .int .i64 0, .int .i64 0, .int .i64 0, .int .i64 0, .int .i64 0, .int .i64 0, .int .i64 0, .int .i64 0, .int .i64 0, .int .i64 0, .int .i64 0, .int .i64 0] 46))) := hid (PX.start h hp hr)
  have HU := hid (fun wz (hz : AM l S wz) => clearLoggedZ hz)
  clear h
  go_enter Tryz.func13, Tryz.ntmps13
  go_upto_region 1 with fail
  (try simp only [World.size_alloc, hp, hr])
  generalize hw1 : World.alloc (w.alloc _) _ = w1 at H0 ⊢
  clear hw1 hp hr
  obtain ⟨c0, c1, c2, c3⟩ := H0.out.cells
  have HC := hid (H0.out.upd (HU.out w1 H0.out.am))
  go_wp2_with fail
  refine HC.out.mono ?_
  rintro e w2 ⟨rfl, H1⟩
  clear HC H0 c0 c1 c2 c3
  obtain ⟨c0, c1, c2, c3⟩ := H1.out.cells
  clear c0 c1 c2 c3
  go_wp2_with (refine wpList_store_blk rfl 46 _ _ rfl r rfl (rsC 0 0 0) rfl H1.out.rb (by first | rfl | (rw [show (rsC 0 0 0).length = 35 from rfl]; rfl)) (by first | exact I0.out | (rw [show (rsC 0 0 0).length = 35 from rfl]; exact I0.out)) (rsC_one _ _ _) ?_; intro w9 HB9 HU9)
  refine bodyPost_ret (results_blk (cs := rsC 0 0 0) Tryz.results13 rfl (by first | exact agg_rs | (rw [show (rsC 0 0 0).length = 35 from rfl]; exact agg_rs)) HB9.out) rfl ?_
  exact PyP.mk rfl (RsOk.c _ _ _) (H1.out.done HU9.out) (by rw [← rsG_r]; exact PlR.wr rfl)
set_option maxRecDepth 100000 in
set_option maxHeartbeats 8000000 in
theorem pl26 (h : AM l S w) (a b c : Int) (ha : U64 a) (hb : U64 b) (hc : U64 c) : Calls Tryz.prog 13 #[.pointer (some ⟨l.a, 0, none⟩), .agg #[.int .u8 26, .int .u64 a, .int .u64 b, .int .u64 c]] w (PyP l S w 26 a b c) := by
  have I0 := hid info_rs
  obtain ⟨p, hp⟩ : ∃ p, w.heap.size = p := ⟨_, rfl⟩
  obtain ⟨r, hr⟩ : ∃ r, p + 1 = r := ⟨_, rfl⟩
  have H0 : Hid (PX l S w p r [.int .u8 26, .int .u64 a, .int .u64 b, .int .u64 c] ((w.alloc (.cells #[.int .u8 26, .int .u64 a, .int .u64 b, .int .u64 c] 31)).alloc (.cells #[.int .u8 0, .int .u64 0, .int .u64 0, .string { data := #[] }, .int .i64 0, .int .i64 0, .int .i64 0, .int .i64 0, .int .i64 0, .int .i64 0, .int .i64 0, .int .i64 0, .int .i64 0, .int .i64 0, .int .i64 0, .int .i64 0, .int .i64 0, .int .i64 0, .int .i64 0, .int .i64 0, .int .u8 0, .int .i64 0, .int .i64 0, .int .i64 0, .int .i64 0, .int .i64 0, .int .i64 0, .int .i64 0, .int .i64 0, .int .i64 0, .int .i64 0, .int .i64 0, .int .i64 0, .int .i64 0, .int .i64 0] 46))) := hid (PX.start h hp hr)
  have HU := hid (fun wz (hz : AM l S wz) => clearMarkedZ hz)
  clear h
  go_enter Tryz.func13, Tryz.ntmps13
  go_upto_region 1 with fail
  (try simp only [World.size_alloc, hp, hr])
  generalize hw1 : World.alloc (w.alloc _) _ = w1 at H0 ⊢
  clear hw1 hp hr
  obtain ⟨c0, c1, c2, c3⟩ := H0.out.cells
  have HC := hid (H0.out.upd (HU.out w1 H0.out.am))
  go_wp2_with fail
  refine HC.out.mono ?_
  rintro e w2 ⟨rfl, H1⟩
  clear HC H0 c0 c1 c2 c3
  obtain ⟨c0, c1, c2, c3⟩ := H1.out.cells
  clear c0 c1 c2 c3
  go_wp2_with (refine wpList_store_blk rfl 46 _ _ rfl r rfl (rsC 0 0 0) rfl H1.out.rb (by first | rfl | (rw [show (rsC 0 0 0).length = 35 from rfl]; rfl)) (by first | exact I0.out | (rw [show (rsC 0 0 0).length = 35 from rfl]; exact I0.out)) (rsC_one _ _ _) ?_; intro w9 HB9 HU9)
  refine bodyPost_ret (results_blk (cs := rsC 0 0 0) Tryz.results13 rfl (by first | exact agg_rs | (rw [show (rsC 0 0 0).length = 35 from rfl]; exact agg_rs)) HB9.out) rfl ?_
  exact PyP.mk rfl (RsOk.c _ _ _) (H1.out.done HU9.out) (by rw [← rsG_r]; exact PlR.wr rfl)
set_option maxRecDepth 100000 in
set_option maxHeartbeats 8000000 in
theorem pl54 (h : AM l S w) (a b c : Int) (ha : U64 a) (hb : U64 b) (hc : U64 c) : Calls Tryz.prog 13 #[.pointer (some ⟨l.a, 0, none⟩), .agg #[.int .u8 54, .int .u64 a, .int .u64 b, .int .u64 c]] w (PyP l S w 54 a b c) := by
  have I0 := hid info_rs
  obtain ⟨p, hp⟩ : ∃ p, w.heap.size = p := ⟨_, rfl⟩
  obtain ⟨r, hr⟩ : ∃ r, p + 1 = r := ⟨_, rfl⟩
  have H0 : Hid (PX l S w p r [.int .u8 54, .int .u64 a, .int .u64 b, .int .u64 c] ((w.alloc (.cells #[.int .u8 54, .int .u64 a, .int .u64 b, .int .u64 c] 31)).alloc (.cells #[.int .u8 0, .int .u64 0, .int .u64 0, .string { data := #[] }, .int .i64 0, .int .i64 0, .int .i64 0, .int .i64 0, .int .i64 0, .int .i64 0, .int .i64 0, .int .i64 0, .int .i64 0, .int .i64 0, .int .i64 0, .int .i64 0, .int .i64 0, .int .i64 0, .int .i64 0, .int .i64 0, .int .u8 0, .int .i64 0, .int .i64 0, .int .i64 0, .int .i64 0, .int .i64 0, .int .i64 0, .int .i64 0, .int .i64 0, .int .i64 0, .int .i64 0, .int .i64 0, .int .i64 0, .int .i64 0, .int .i64 0] 46))) := hid (PX.start h hp hr)
  have HU := hid (fun wz (hz : AM l S wz) => resetZ hz)
  clear h
  go_enter Tryz.func13, Tryz.ntmps13
  go_upto_region 1 with fail
  (try simp only [World.size_alloc, hp, hr])
  generalize hw1 : World.alloc (w.alloc _) _ = w1 at H0 ⊢
  clear hw1 hp hr
  obtain ⟨c0, c1, c2, c3⟩ := H0.out.cells
  have HC := hid (H0.out.upd (HU.out w1 H0.out.am))
  go_wp2_with fail
  refine HC.out.mono ?_
  rintro e w2 ⟨rfl, H1⟩
  clear HC H0 c0 c1 c2 c3
  obtain ⟨c0, c1, c2, c3⟩ := H1.out.cells
  clear c0 c1 c2 c3
  go_wp2_with (refine wpList_store_blk rfl 46 _ _ rfl r rfl (rsC 0 0 0) rfl H1.out.rb (by first | rfl | (rw [show (rsC 0 0 0).length = 35 from rfl]; rfl)) (by first | exact I0.out | (rw [show (rsC 0 0 0).length = 35 from rfl]; exact I0.out)) (rsC_one _ _ _) ?_; intro w9 HB9 HU9)
  refine bodyPost_ret (results_blk (cs := rsC 0 0 0) Tryz.results13 rfl (by first | exact agg_rs | (rw [show (rsC 0 0 0).length = 35 from rfl]; exact agg_rs)) HB9.out) rfl ?_
  exact PyP.mk rfl (RsOk.c _ _ _) (H1.out.done HU9.out) (by rw [← rsG_r]; exact PlR.wr rfl)
end
end Go.Proofs.Qxb6500887aGreat
