/- Reading steps with their answers (written by tools/mk_au.py). -/
import Derived.Test.Qxb6500887aGreatAv3
import Derived.Test.Qxb6500887aGreatAx7
import Derived.Test.Qxb6500887aGreatAzZc
import Derived.Deep.DeepCutAuto
namespace Go.Proofs.Qxb6500887aGreat
open Go.RowKit
set_option linter.unusedSimpArgs false
set_option linter.unusedVariables false
section
variable {l : AL} {S S' : AS} {w w' w0 : World}
set_option maxRecDepth 100000 in
set_option maxHeartbeats 8000000 in
theorem px16 (h : AM l S w) (a b c : Int) (ha : U64 a) (hb : U64 b) (hc : U64 c) : Calls Tryz.prog 13 #[.pointer (some ⟨l.a, 0, none⟩), .agg #[.int .u8 16, .int .u64 a, .int .u64 b, .int .u64 c]] w (PyE l S w (stR (abE S) 16 a b c).1) := by
  have I0 := hid info_rs
  obtain ⟨p, hp⟩ : ∃ p, w.heap.size = p := ⟨_, rfl⟩
  obtain ⟨r, hr⟩ : ∃ r, p + 1 = r := ⟨_, rfl⟩
  have H0 : Hid (PX l S w p r [.int .u8 16, .int .u64 a, .int .u64 b, .int .u64 c] ((w.alloc (.cells #[.int .u8 16, .int .u64 a, .int .u64 b, .int .u64 c] 31)).alloc (.cells #[.int .u8 0, .int .u64 0, .int .u64 0, .string { data := #[] }, .int .i64 0, .int .i64 0, .int .i64 0, .int .i64 0, .int .i64 0, .int .i64 0, .int .i64 0, .int .i64 0, .int .i64 0, .int .i64 0, .int .i64 0, .int .i64 0, .int .i64 0, .int .i64 0, .int .i64 0, .int .i64 0, .int .u8 0, .int .i64 0, .int .i64 0, .int .i64 0, .int .i64 0, .int .i64 0, .int .i64 0, .int .i64 0, .int .i64 0, .int .i64 0, .int .i64 0, .int .i64 0, .int .i64 0, .int .i64 0, .int .i64 0] 46))) := hid (PX.start h hp hr)
  obtain ⟨v, hv⟩ : ∃ v : Int, (if wantO a = 0 then ((eN 2 32 S.C (gIx a) : Nat) : Int) else 0) = v := ⟨_, rfl⟩
  obtain ⟨v2, hv2⟩ : ∃ v2 : Int, IntKind.u64.wrap v = v2 := ⟨_, rfl⟩
  obtain ⟨cd, hcd⟩ : ∃ cd, wantO a = cd := ⟨_, rfl⟩
  have HRd : Hid (wantO a ≠ 0 → cd = wantO a) := hid (fun hi => hcd.symm)
  have HK := hid (fun wz (hz : AM l S wz) => (by have := countZ hz a; rw [hv, hcd] at this; exact this : Calls Tryz.prog 73 #[.pointer (some ⟨l.a, 0, none⟩), .int .u64 a] wz fun e w' => e = .returned (.tuple #[.int .u8 v, .int .u8 cd]) ∧ Drew wz w'))
  have HRq : Hid (rsG cd v2 0 = (stR (abE S) 16 a b c).1) := hid (by rw [← hv2, ← hv, ← hcd]; exact rd16)
  clear hv hcd
  clear h
  go_enter Tryz.func13, Tryz.ntmps13
  go_upto_region 1 with fail
  (try simp only [World.size_alloc, hp, hr])
  generalize hw1 : World.alloc (w.alloc _) _ = w1 at H0 ⊢
  clear hw1 hp hr
  obtain ⟨c0, c1, c2, c3⟩ := H0.out.cells
  have HC := hid (H0.out.drw (HK.out w1 H0.out.am))
  go_wp2_with fail
  refine HC.out.mono ?_
  rintro e w2 ⟨rfl, H1⟩
  clear HC H0 c0 c1 c2 c3
  obtain ⟨c0, c1, c2, c3⟩ := H1.out.cells
  have HC := hid (H1.out.bel (giveZ v2 0 cd w2))
  go_wp2_with fail
  refine HC.out.mono ?_
  rintro e w3 ⟨rfl, H2⟩
  clear HC H1 c0 c1 c2 c3
  obtain ⟨c0, c1, c2, c3⟩ := H2.out.cells
  clear c0 c1 c2 c3
  go_wp2_with (refine wpList_store_blk rfl 46 _ _ rfl r rfl (rsG cd v2 0) rfl H2.out.rb (by first | rfl | (rw [rsG_len]; rfl)) (by first | exact I0.out | (rw [rsG_len]; exact I0.out)) (rsG_one _ _ _) ?_; intro w9 HB9 HU9)
  refine bodyPost_ret (results_blk (cs := rsG cd v2 0) Tryz.results13 rfl (by first | exact agg_rs | (rw [rsG_len]; exact agg_rs)) HB9.out) rfl ?_
  exact PyE.mk rfl (HRq.out) (H2.out.done HU9.out)
set_option maxRecDepth 100000 in
set_option maxHeartbeats 8000000 in
theorem px18 (h : AM l S w) (a b c : Int) (ha : U64 a) (hb : U64 b) (hc : U64 c) : Calls Tryz.prog 13 #[.pointer (some ⟨l.a, 0, none⟩), .agg #[.int .u8 18, .int .u64 a, .int .u64 b, .int .u64 c]] w (PyE l S w (stR (abE S) 18 a b c).1) := by
  have I0 := hid info_rs
  obtain ⟨p, hp⟩ : ∃ p, w.heap.size = p := ⟨_, rfl⟩
  obtain ⟨r, hr⟩ : ∃ r, p + 1 = r := ⟨_, rfl⟩
  have H0 : Hid (PX l S w p r [.int .u8 18, .int .u64 a, .int .u64 b, .int .u64 c] ((w.alloc (.cells #[.int .u8 18, .int .u64 a, .int .u64 b, .int .u64 c] 31)).alloc (.cells #[.int .u8 0, .int .u64 0, .int .u64 0, .string { data := #[] }, .int .i64 0, .int .i64 0, .int .i64 0, .int .i64 0, .int .i64 0, .int .i64 0, .int .i64 0, .int .i64 0, .int .i64 0, .int .i64 0, .int .i64 0, .int .i64 0, .int .i64 0, .int .i64 0, .int .i64 0, .int .i64 0, .int .u8 0, .int .i64 0, .int .i64 0, .int .i64 0, .int .i64 0, .int .i64 0, .int .i64 0, .int .i64 0, .int .i64 0, .int .i64 0, .int .i64 0, .int .i64 0, .int .i64 0, .int .i64 0, .int .i64 0] 46))) := hid (PX.start h hp hr)
  obtain ⟨z, hz0⟩ : ∃ z : Bool, (if wantW a = 0 then !(((eN 1 64 S.L (wIx a) : Nat) : Int) == 0) else false) = z := ⟨_, rfl⟩
  obtain ⟨cd, hcd⟩ : ∃ cd, wantW a = cd := ⟨_, rfl⟩
  have HRd : Hid (¬ InH a → cd = 1) := hid (fun hi => by rw [← hcd]; exact wantW_bad hi)
  have HK := hid (fun wz (hz : AM l S wz) => (by have := loggedZ hz a; rw [hz0, hcd] at this; exact this : Calls Tryz.prog 81 #[.pointer (some ⟨l.a, 0, none⟩), .int .u64 a] wz fun e w' => e = .returned (.tuple #[.bool z, .int .u8 cd]) ∧ Drew wz w'))
  have HRq : Hid (rsG cd ((bitN z : Nat) : Int) 0 = (stR (abE S) 18 a b c).1) := hid (by rw [← hz0, ← hcd]; exact rd18)
  clear hz0 hcd
  clear h
  go_enter Tryz.func13, Tryz.ntmps13
  go_upto_region 1 with fail
  (try simp only [World.size_alloc, hp, hr])
  generalize hw1 : World.alloc (w.alloc _) _ = w1 at H0 ⊢
  clear hw1 hp hr
  obtain ⟨c0, c1, c2, c3⟩ := H0.out.cells
  have HC := hid (H0.out.drw (HK.out w1 H0.out.am))
  go_wp2_with fail
  refine HC.out.mono ?_
  rintro e w2 ⟨rfl, H1⟩
  clear HC H0 c0 c1 c2 c3
  obtain ⟨c0, c1, c2, c3⟩ := H1.out.cells
  have HC := hid (H1.out.pure (flagZ z w2))
  go_wp2_with fail
  refine HC.out.mono ?_
  rintro e w3 ⟨rfl, H2⟩
  clear HC H1 c0 c1 c2 c3
  obtain ⟨c0, c1, c2, c3⟩ := H2.out.cells
  have HC := hid (H2.out.bel (giveZ ((bitN z : Nat) : Int) 0 cd w3))
  go_wp2_with fail
  refine HC.out.mono ?_
  rintro e w4 ⟨rfl, H3⟩
  clear HC H2 c0 c1 c2 c3
  obtain ⟨c0, c1, c2, c3⟩ := H3.out.cells
  clear c0 c1 c2 c3
  go_wp2_with (refine wpList_store_blk rfl 46 _ _ rfl r rfl (rsG cd ((bitN z : Nat) : Int) 0) rfl H3.out.rb (by first | rfl | (rw [rsG_len]; rfl)) (by first | exact I0.out | (rw [rsG_len]; exact I0.out)) (rsG_one _ _ _) ?_; intro w9 HB9 HU9)
  refine bodyPost_ret (results_blk (cs := rsG cd ((bitN z : Nat) : Int) 0) Tryz.results13 rfl (by first | exact agg_rs | (rw [rsG_len]; exact agg_rs)) HB9.out) rfl ?_
  exact PyE.mk rfl (HRq.out) (H3.out.done HU9.out)
set_option maxRecDepth 100000 in
set_option maxHeartbeats 8000000 in
theorem px23 (h : AM l S w) (a b c : Int) (ha : U64 a) (hb : U64 b) (hc : U64 c) : Calls Tryz.prog 13 #[.pointer (some ⟨l.a, 0, none⟩), .agg #[.int .u8 23, .int .u64 a, .int .u64 b, .int .u64 c]] w (PyE l S w (stR (abE S) 23 a b c).1) := by
  have I0 := hid info_rs
  obtain ⟨p, hp⟩ : ∃ p, w.heap.size = p := ⟨_, rfl⟩
  obtain ⟨r, hr⟩ : ∃ r, p + 1 = r := ⟨_, rfl⟩
  have H0 : Hid (PX l S w p r [.int .u8 23, .int .u64 a, .int .u64 b, .int .u64 c] ((w.alloc (.cells #[.int .u8 23, .int .u64 a, .int .u64 b, .int .u64 c] 31)).alloc (.cells #[.int .u8 0, .int .u64 0, .int .u64 0, .string { data := #[] }, .int .i64 0, .int .i64 0, .int .i64 0, .int .i64 0, .int .i64 0, .int .i64 0, .int .i64 0, .int .i64 0, .int .i64 0, .int .i64 0, .int .i64 0, .int .i64 0, .int .i64 0, .int .i64 0, .int .i64 0, .int .i64 0, .int .u8 0, .int .i64 0, .int .i64 0, .int .i64 0, .int .i64 0, .int .i64 0, .int .i64 0, .int .i64 0, .int .i64 0, .int .i64 0, .int .i64 0, .int .i64 0, .int .i64 0, .int .i64 0, .int .i64 0] 46))) := hid (PX.start h hp hr)
  obtain ⟨z, hz0⟩ : ∃ z : Bool, (if wantO a = 0 then !(((eN 1 64 S.M (gIx a) : Nat) : Int) == 0) else false) = z := ⟨_, rfl⟩
  obtain ⟨cd, hcd⟩ : ∃ cd, wantO a = cd := ⟨_, rfl⟩
  have HRd : Hid (wantO a ≠ 0 → cd = wantO a) := hid (fun hi => hcd.symm)
  have HK := hid (fun wz (hz : AM l S wz) => (by have := markedZ hz a; rw [hz0, hcd] at this; exact this : Calls Tryz.prog 76 #[.pointer (some ⟨l.a, 0, none⟩), .int .u64 a] wz fun e w' => e = .returned (.tuple #[.bool z, .int .u8 cd]) ∧ Drew wz w'))
  have HRq : Hid (rsG cd ((bitN z : Nat) : Int) 0 = (stR (abE S) 23 a b c).1) := hid (by rw [← hz0, ← hcd]; exact rd23)
  clear hz0 hcd
  clear h
  go_enter Tryz.func13, Tryz.ntmps13
  go_upto_region 1 with fail
  (try simp only [World.size_alloc, hp, hr])
  generalize hw1 : World.alloc (w.alloc _) _ = w1 at H0 ⊢
  clear hw1 hp hr
  obtain ⟨c0, c1, c2, c3⟩ := H0.out.cells
  have HC := hid (H0.out.drw (HK.out w1 H0.out.am))
  go_wp2_with fail
  refine HC.out.mono ?_
  rintro e w2 ⟨rfl, H1⟩
  clear HC H0 c0 c1 c2 c3
  obtain ⟨c0, c1, c2, c3⟩ := H1.out.cells
  have HC := hid (H1.out.pure (flagZ z w2))
  go_wp2_with fail
  refine HC.out.mono ?_
  rintro e w3 ⟨rfl, H2⟩
  clear HC H1 c0 c1 c2 c3
  obtain ⟨c0, c1, c2, c3⟩ := H2.out.cells
  have HC := hid (H2.out.bel (giveZ ((bitN z : Nat) : Int) 0 cd w3))
  go_wp2_with fail
  refine HC.out.mono ?_
  rintro e w4 ⟨rfl, H3⟩
  clear HC H2 c0 c1 c2 c3
  obtain ⟨c0, c1, c2, c3⟩ := H3.out.cells
  clear c0 c1 c2 c3
  go_wp2_with (refine wpList_store_blk rfl 46 _ _ rfl r rfl (rsG cd ((bitN z : Nat) : Int) 0) rfl H3.out.rb (by first | rfl | (rw [rsG_len]; rfl)) (by first | exact I0.out | (rw [rsG_len]; exact I0.out)) (rsG_one _ _ _) ?_; intro w9 HB9 HU9)
  refine bodyPost_ret (results_blk (cs := rsG cd ((bitN z : Nat) : Int) 0) Tryz.results13 rfl (by first | exact agg_rs | (rw [rsG_len]; exact agg_rs)) HB9.out) rfl ?_
  exact PyE.mk rfl (HRq.out) (H3.out.done HU9.out)
set_option maxRecDepth 100000 in
set_option maxHeartbeats 8000000 in
theorem px4 (h : AM l S w) (a b c : Int) (ha : U64 a) (hb : U64 b) (hc : U64 c) : Calls Tryz.prog 13 #[.pointer (some ⟨l.a, 0, none⟩), .agg #[.int .u8 4, .int .u64 a, .int .u64 b, .int .u64 c]] w (PyE l S w (stR (abE S) 4 a b c).1) := by
  have I0 := hid info_rs
  obtain ⟨p, hp⟩ : ∃ p, w.heap.size = p := ⟨_, rfl⟩
  obtain ⟨r, hr⟩ : ∃ r, p + 1 = r := ⟨_, rfl⟩
  have H0 : Hid (PX l S w p r [.int .u8 4, .int .u64 a, .int .u64 b, .int .u64 c] ((w.alloc (.cells #[.int .u8 4, .int .u64 a, .int .u64 b, .int .u64 c] 31)).alloc (.cells #[.int .u8 0, .int .u64 0, .int .u64 0, .string { data := #[] }, .int .i64 0, .int .i64 0, .int .i64 0, .int .i64 0, .int .i64 0, .int .i64 0, .int .i64 0, .int .i64 0, .int .i64 0, .int .i64 0, .int .i64 0, .int .i64 0, .int .i64 0, .int .i64 0, .int .i64 0, .int .i64 0, .int .u8 0, .int .i64 0, .int .i64 0, .int .i64 0, .int .i64 0, .int .i64 0, .int .i64 0, .int .i64 0, .int .i64 0, .int .i64 0, .int .i64 0, .int .i64 0, .int .i64 0, .int .i64 0, .int .i64 0] 46))) := hid (PX.start h hp hr)
  obtain ⟨na, hna⟩ : ∃ n, nbI a = n := ⟨_, rfl⟩
  have HNna : Hid (∀ wz, Calls Tryz.prog 26 #[.int .u64 a] wz fun e w' => e = .returned (.int .i64 na) ∧ w' = wz) := hid (fun wz => by
    have := number_walk a ha wz
    rw [show wrap64 a = na from hna] at this
    exact this)
  obtain ⟨nb, hnb⟩ : ∃ n, nbI b = n := ⟨_, rfl⟩
  have HNnb : Hid (∀ wz, Calls Tryz.prog 26 #[.int .u64 b] wz fun e w' => e = .returned (.int .i64 nb) ∧ w' = wz) := hid (fun wz => by
    have := number_walk b hb wz
    rw [show wrap64 b = nb from hnb] at this
    exact this)
  obtain ⟨v, hv⟩ : ∃ v : Int, (if hdrCheck na nb = 0 then encW na nb else 0) = v := ⟨_, rfl⟩
  obtain ⟨cd, hcd⟩ : ∃ cd, hdrCheck na nb = cd := ⟨_, rfl⟩
  have HK := hid (fun wz => (by have := encodeZ na nb wz; rw [hv, hcd] at this; exact this : Calls Tryz.prog 64 #[.int .i64 na, .int .i64 nb] wz fun e w' => e = .returned (.tuple #[.int .u64 v, .int .u8 cd]) ∧ Below wz.heap.size wz w'))
  have HRq : Hid (rsG cd v 0 = (stR (abE S) 4 a b c).1) := hid (by rw [← hv, ← hcd, ← hna, ← hnb]; exact rd4 ha hb)
  clear h hna hnb hv hcd
  go_enter Tryz.func13, Tryz.ntmps13
  go_upto_region 1 with fail
  (try simp only [World.size_alloc, hp, hr])
  generalize hw1 : World.alloc (w.alloc _) _ = w1 at H0 ⊢
  clear hw1 hp hr
  obtain ⟨c0, c1, c2, c3⟩ := H0.out.cells
  go_upto_region 19 with fail
  obtain ⟨X, W, HTT, HH0, hne, HCl⟩ := class_below w1
  have y1 : ∀ y, (W y).cell? ⟨p, 1, none⟩ = some (.int .u64 a) := fun y => (H0.out.below (HTT.out y)).cells.2.1
  have y2 : ∀ y, (W y).cell? ⟨p, 2, none⟩ = some (.int .u64 b) := fun y => (H0.out.below (HTT.out y)).cells.2.2.1
  have HKy := hid (fun y => HK.out (W y))
  have HNa := hid (fun y => HNna.out (W y))
  have HNb := hid (fun y => HNnb.out (W y))
  refine wp_region_class W (by kernel_rfl) (by kernel_rfl) HH0.out ?_
  repeat (go_big_quiet_step (first | (go_at_call 26; first | with_reducible exact Calls.class_same (HNa.out _) | with_reducible exact Calls.class_same (HNb.out _)) | (go_at_call 64; with_reducible exact Calls.class_of HCl.out (HKy.out _))))
  refine wpQuiet_nil ?_
  intro y
  have H1 := hid (H0.out.below (HTT.out y))
  generalize W y = w2 at H1 ⊢
  clear y1 y2 HKy HNa HNb HH0 HTT HCl hne H0 c0 c1 c2 c3 HK
  obtain ⟨c0, c1, c2, c3⟩ := H1.out.cells
  have HC := hid (H1.out.bel (giveZ v 0 cd w2))
  go_wp2_with fail
  refine HC.out.mono ?_
  rintro e w3 ⟨rfl, H2⟩
  clear HC H1 c0 c1 c2 c3
  obtain ⟨c0, c1, c2, c3⟩ := H2.out.cells
  clear c0 c1 c2 c3
  go_wp2_with (refine wpList_store_blk rfl 46 _ _ rfl r rfl (rsG cd v 0) rfl H2.out.rb (by first | rfl | (rw [rsG_len]; rfl)) (by first | exact I0.out | (rw [rsG_len]; exact I0.out)) (rsG_one _ _ _) ?_; intro w9 HB9 HU9)
  refine bodyPost_ret (results_blk (cs := rsG cd v 0) Tryz.results13 rfl (by first | exact agg_rs | (rw [rsG_len]; exact agg_rs)) HB9.out) rfl ?_
  exact PyE.mk rfl (HRq.out) (H2.out.done HU9.out)
set_option maxRecDepth 100000 in
set_option maxHeartbeats 8000000 in
theorem px5 (h : AM l S w) (a b c : Int) (ha : U64 a) (hb : U64 b) (hc : U64 c) : Calls Tryz.prog 13 #[.pointer (some ⟨l.a, 0, none⟩), .agg #[.int .u8 5, .int .u64 a, .int .u64 b, .int .u64 c]] w (PyE l S w (stR (abE S) 5 a b c).1) := by
  have I0 := hid info_rs
  obtain ⟨p, hp⟩ : ∃ p, w.heap.size = p := ⟨_, rfl⟩
  obtain ⟨r, hr⟩ : ∃ r, p + 1 = r := ⟨_, rfl⟩
  have H0 : Hid (PX l S w p r [.int .u8 5, .int .u64 a, .int .u64 b, .int .u64 c] ((w.alloc (.cells #[.int .u8 5, .int .u64 a, .int .u64 b, .int .u64 c] 31)).alloc (.cells #[.int .u8 0, .int .u64 0, .int .u64 0, .string { data := #[] }, .int .i64 0, .int .i64 0, .int .i64 0, .int .i64 0, .int .i64 0, .int .i64 0, .int .i64 0, .int .i64 0, .int .i64 0, .int .i64 0, .int .i64 0, .int .i64 0, .int .i64 0, .int .i64 0, .int .i64 0, .int .i64 0, .int .u8 0, .int .i64 0, .int .i64 0, .int .i64 0, .int .i64 0, .int .i64 0, .int .i64 0, .int .i64 0, .int .i64 0, .int .i64 0, .int .i64 0, .int .i64 0, .int .i64 0, .int .i64 0, .int .i64 0] 46))) := hid (PX.start h hp hr)
  have HK : Hid (∀ wz : World, Calls Tryz.prog 65 #[.int .u64 a] wz fun e w' => ∃ s rf cd : Int, e = .returned (.tuple #[.agg #[.int .i64 s, .int .i64 rf], .int .u8 cd]) ∧ Below wz.heap.size wz w' ∧ Hid ((isHdr a ∧ s = decSize a ∧ rf = decRefs a ∧ cd = 0) ∨ (¬ isHdr a ∧ cd = 6))) := hid (fun wz => by
    by_cases hi : isHdr a
    · exact (decode_good a wz ha.1 ha.2 hi).mono fun e w' h => ⟨_, _, _, h.1, h.2, hid (.inl ⟨hi, rfl, rfl, rfl⟩)⟩
    · exact (decode_bad a wz ha.1 ha.2 hi).mono fun e w' h => ⟨_, _, _, h.1, h.2, hid (.inr ⟨hi, rfl⟩)⟩)
  clear h
  go_enter Tryz.func13, Tryz.ntmps13
  go_upto_region 1 with fail
  (try simp only [World.size_alloc, hp, hr])
  generalize hw1 : World.alloc (w.alloc _) _ = w1 at H0 ⊢
  clear hw1 hp hr
  obtain ⟨c0, c1, c2, c3⟩ := H0.out.cells
  have HC := hid (HK.out w1)
  go_wp2_with fail
  refine HC.out.mono ?_
  rintro e w2 ⟨s, rf, cd, rfl, hb_, HDq⟩
  have H1 := hid (H0.out.below hb_)
  clear hb_
  clear HC H0 c0 c1 c2 c3
  obtain ⟨c0, c1, c2, c3⟩ := H1.out.cells
  obtain ⟨g_, hg_⟩ : ∃ g, w2.heap.size = g := ⟨_, rfl⟩
  have HQ : Hid (PX l S w p r [.int .u8 5, .int .u64 a, .int .u64 b, .int .u64 c] (w2.alloc (.cells #[.int .i64 s, .int .i64 rf] 59)) ∧ Blk (w2.alloc (.cells #[.int .i64 s, .int .i64 rf] 59)) g_ 59 [.int .i64 s, .int .i64 rf]) := hid (by
    have kk := Blk.new w2 [.int .i64 s, .int .i64 rf] 59
    rw [hg_] at kk
    exact ⟨H1.out.below (nbel _ _), kk⟩)
  go_upto_region 23 with fail
  (try simp only [hg_])
  generalize hwq : w2.alloc _ = wq at HQ ⊢
  clear hwq hg_ H1 c0 c1 c2 c3
  have q0 := HQ.out.2.cell 0
  have q1 := HQ.out.2.cell 1
  simp only [List.getElem?_cons_zero, List.getElem?_cons_succ] at q0 q1
  have H9 := hid HQ.out.1
  obtain ⟨c0, c1, c2, c3⟩ := H9.out.cells
  obtain ⟨s2, hs2⟩ : ∃ v : Int, IntKind.u64.wrap s = v := ⟨_, rfl⟩
  obtain ⟨r2, hr2⟩ : ∃ v : Int, IntKind.u64.wrap rf = v := ⟨_, rfl⟩
  have HC := hid (H9.out.bel (giveZ s2 r2 cd wq))
  go_wp2_with fail
  refine HC.out.mono ?_
  rintro e w11 ⟨rfl, H10⟩
  clear HC H9 c0 c1 c2 c3
  obtain ⟨c0, c1, c2, c3⟩ := H10.out.cells
  clear c0 c1 c2 c3
  go_wp2_with (refine wpList_store_blk rfl 46 _ _ rfl r rfl (rsG cd s2 r2) rfl H10.out.rb (by first | rfl | (rw [rsG_len]; rfl)) (by first | exact I0.out | (rw [rsG_len]; exact I0.out)) (rsG_one _ _ _) ?_; intro w9 HB9 HU9)
  refine bodyPost_ret (results_blk (cs := rsG cd s2 r2) Tryz.results13 rfl (by first | exact agg_rs | (rw [rsG_len]; exact agg_rs)) HB9.out) rfl ?_
  exact PyE.mk rfl (rd5 HDq.out hs2 hr2) (H10.out.done HU9.out)
set_option maxRecDepth 100000 in
set_option maxHeartbeats 8000000 in
theorem px7 (h : AM l S w) (a b c : Int) (ha : U64 a) (hb : U64 b) (hc : U64 c) : Calls Tryz.prog 13 #[.pointer (some ⟨l.a, 0, none⟩), .agg #[.int .u8 7, .int .u64 a, .int .u64 b, .int .u64 c]] w (PyE l S w (stR (abE S) 7 a b c).1) := by
  have I0 := hid info_rs
  obtain ⟨p, hp⟩ : ∃ p, w.heap.size = p := ⟨_, rfl⟩
  obtain ⟨r, hr⟩ : ∃ r, p + 1 = r := ⟨_, rfl⟩
  have H0 : Hid (PX l S w p r [.int .u8 7, .int .u64 a, .int .u64 b, .int .u64 c] ((w.alloc (.cells #[.int .u8 7, .int .u64 a, .int .u64 b, .int .u64 c] 31)).alloc (.cells #[.int .u8 0, .int .u64 0, .int .u64 0, .string { data := #[] }, .int .i64 0, .int .i64 0, .int .i64 0, .int .i64 0, .int .i64 0, .int .i64 0, .int .i64 0, .int .i64 0, .int .i64 0, .int .i64 0, .int .i64 0, .int .i64 0, .int .i64 0, .int .i64 0, .int .i64 0, .int .i64 0, .int .u8 0, .int .i64 0, .int .i64 0, .int .i64 0, .int .i64 0, .int .i64 0, .int .i64 0, .int .i64 0, .int .i64 0, .int .i64 0, .int .i64 0, .int .i64 0, .int .i64 0, .int .i64 0, .int .i64 0] 46))) := hid (PX.start h hp hr)
  obtain ⟨cd, hcd⟩ : ∃ cd, onC S a = cd := ⟨_, rfl⟩
  have HRd : Hid (wantO a ≠ 0 → cd = wantO a) := hid (fun hi => by rw [← hcd]; exact onC_bad hi)
  have HK := hid (fun wz (hz : AM l S wz) => (by have := arHeaderX hz a; rw [hcd] at this; exact this.mono (fun e w' ⟨s, rf, he, _, _, _, _, hb⟩ => ⟨s, rf, he, hb.out.2, hid hb.out.1⟩) : Calls Tryz.prog 67 #[.pointer (some ⟨l.a, 0, none⟩), .int .u64 a] wz fun e w' => ∃ s rf : Int, e = .returned (.tuple #[.agg #[.int .i64 s, .int .i64 rf], .int .u8 cd]) ∧ Below wz.heap.size wz w' ∧ Hid (cd = 0 → s = decSize (S.W (2 * gIx a)) ∧ rf = decRefs (S.W (2 * gIx a)))))
  have HCd := hid hcd
  clear hcd
  clear h
  go_enter Tryz.func13, Tryz.ntmps13
  go_upto_region 1 with fail
  (try simp only [World.size_alloc, hp, hr])
  generalize hw1 : World.alloc (w.alloc _) _ = w1 at H0 ⊢
  clear hw1 hp hr
  obtain ⟨c0, c1, c2, c3⟩ := H0.out.cells
  have HC := hid (HK.out w1 H0.out.am)
  go_wp2_with fail
  refine HC.out.mono ?_
  rintro e w2 ⟨s, rf, rfl, hb_, HDq⟩
  have H1 := hid (H0.out.below hb_)
  clear hb_
  clear HC H0 c0 c1 c2 c3
  obtain ⟨c0, c1, c2, c3⟩ := H1.out.cells
  obtain ⟨g_, hg_⟩ : ∃ g, w2.heap.size = g := ⟨_, rfl⟩
  have HQ : Hid (PX l S w p r [.int .u8 7, .int .u64 a, .int .u64 b, .int .u64 c] (w2.alloc (.cells #[.int .i64 s, .int .i64 rf] 59)) ∧ Blk (w2.alloc (.cells #[.int .i64 s, .int .i64 rf] 59)) g_ 59 [.int .i64 s, .int .i64 rf]) := hid (by
    have kk := Blk.new w2 [.int .i64 s, .int .i64 rf] 59
    rw [hg_] at kk
    exact ⟨H1.out.below (nbel _ _), kk⟩)
  go_upto_region 28 with fail
  (try simp only [hg_])
  generalize hwq : w2.alloc _ = wq at HQ ⊢
  clear hwq hg_ H1 c0 c1 c2 c3
  have q0 := HQ.out.2.cell 0
  have q1 := HQ.out.2.cell 1
  simp only [List.getElem?_cons_zero, List.getElem?_cons_succ] at q0 q1
  have H9 := hid HQ.out.1
  obtain ⟨c0, c1, c2, c3⟩ := H9.out.cells
  obtain ⟨s2, hs2⟩ : ∃ v : Int, IntKind.u64.wrap s = v := ⟨_, rfl⟩
  obtain ⟨r2, hr2⟩ : ∃ v : Int, IntKind.u64.wrap rf = v := ⟨_, rfl⟩
  have HC := hid (H9.out.bel (giveZ s2 r2 cd wq))
  go_wp2_with fail
  refine HC.out.mono ?_
  rintro e w11 ⟨rfl, H10⟩
  clear HC H9 c0 c1 c2 c3
  obtain ⟨c0, c1, c2, c3⟩ := H10.out.cells
  clear c0 c1 c2 c3
  go_wp2_with (refine wpList_store_blk rfl 46 _ _ rfl r rfl (rsG cd s2 r2) rfl H10.out.rb (by first | rfl | (rw [rsG_len]; rfl)) (by first | exact I0.out | (rw [rsG_len]; exact I0.out)) (rsG_one _ _ _) ?_; intro w9 HB9 HU9)
  refine bodyPost_ret (results_blk (cs := rsG cd s2 r2) Tryz.results13 rfl (by first | exact agg_rs | (rw [rsG_len]; exact agg_rs)) HB9.out) rfl ?_
  exact PyE.mk rfl (rd7 HCd.out HDq.out hs2 hr2) (H10.out.done HU9.out)
set_option maxRecDepth 100000 in
set_option maxHeartbeats 8000000 in
theorem px53 (h : AM l S w) (a b c : Int) (ha : U64 a) (hb : U64 b) (hc : U64 c) : Calls Tryz.prog 13 #[.pointer (some ⟨l.a, 0, none⟩), .agg #[.int .u8 53, .int .u64 a, .int .u64 b, .int .u64 c]] w (PyE l S w (stR (abE S) 53 a b c).1) := by
  have I0 := hid info_rs
  obtain ⟨p, hp⟩ : ∃ p, w.heap.size = p := ⟨_, rfl⟩
  obtain ⟨r, hr⟩ : ∃ r, p + 1 = r := ⟨_, rfl⟩
  have H0 : Hid (PX l S w p r [.int .u8 53, .int .u64 a, .int .u64 b, .int .u64 c] ((w.alloc (.cells #[.int .u8 53, .int .u64 a, .int .u64 b, .int .u64 c] 31)).alloc (.cells #[.int .u8 0, .int .u64 0, .int .u64 0, .string { data := #[] }, .int .i64 0, .int .i64 0, .int .i64 0, .int .i64 0, .int .i64 0, .int .i64 0, .int .i64 0, .int .i64 0, .int .i64 0, .int .i64 0, .int .i64 0, .int .i64 0, .int .i64 0, .int .i64 0, .int .i64 0, .int .i64 0, .int .u8 0, .int .i64 0, .int .i64 0, .int .i64 0, .int .i64 0, .int .i64 0, .int .i64 0, .int .i64 0, .int .i64 0, .int .i64 0, .int .i64 0, .int .i64 0, .int .i64 0, .int .i64 0, .int .i64 0] 46))) := hid (PX.start h hp hr)
  have HK := hid (fun wz (hz : AM l S wz) => versionZ hz)
  clear h
  go_enter Tryz.func13, Tryz.ntmps13
  go_upto_region 1 with fail
  (try simp only [World.size_alloc, hp, hr])
  generalize hw1 : World.alloc (w.alloc _) _ = w1 at H0 ⊢
  clear hw1 hp hr
  obtain ⟨c0, c1, c2, c3⟩ := H0.out.cells
  have HC := hid (H0.out.pure (HK.out w1 H0.out.am))
  go_wp2_with fail
  refine HC.out.mono ?_
  rintro e w2 ⟨rfl, H1⟩
  clear HC H0 c0 c1 c2 c3
  obtain ⟨c0, c1, c2, c3⟩ := H1.out.cells
  clear c0 c1 c2 c3
  go_wp2_with (refine wpList_store_blk rfl 46 _ _ rfl r rfl (rsC 0 (S.v : Int) 0) rfl H1.out.rb (by first | rfl | (rw [show (rsC 0 (S.v : Int) 0).length = 35 from rfl]; rfl)) (by first | exact I0.out | (rw [show (rsC 0 (S.v : Int) 0).length = 35 from rfl]; exact I0.out)) (rsC_one _ _ _) ?_; intro w9 HB9 HU9)
  refine bodyPost_ret (results_blk (cs := rsC 0 (S.v : Int) 0) Tryz.results13 rfl (by first | exact agg_rs | (rw [show (rsC 0 (S.v : Int) 0).length = 35 from rfl]; exact agg_rs)) HB9.out) rfl ?_
  exact PyE.mk rfl (rfl) (H1.out.done HU9.out)
end
end Go.Proofs.Qxb6500887aGreat
