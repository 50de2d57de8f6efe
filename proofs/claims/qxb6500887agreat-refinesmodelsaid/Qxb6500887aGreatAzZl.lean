/- Steps of playLines (written by tools/mk_azzl.py). -/
import Derived.Test.Qxb6500887aGreatAzZd
namespace Go.Proofs.Qxb6500887aGreat
open Go.RowKit
set_option linter.unusedSimpArgs false
set_option linter.unusedVariables false
section
variable {l : AL} {S S' : AS} {w w' w0 : World}
/-- An answer with reports. -/
def rsOf (s : ByteArray) (c : Int) (us rp lr : List Int) (bc : Int) (bi ce : List Int) : List Value := [.int .u8 c, .int .u64 0, .int .u64 0, .string s] ++ (us.map inV ++ (rp.map inV ++ (lr.map inV ++ (.int .u8 bc :: (bi.map inV ++ ce.map inV)))))
theorem rsOf_one (s : ByteArray) (c : Int) (us rp lr : List Int) (bc : Int) (bi ce : List Int) : ∀ x ∈ rsOf s c us rp lr bc bi ce, x.oneCell' = true := by
  intro x hx
  unfold rsOf at hx
  simp only [List.mem_append, List.mem_cons, List.not_mem_nil, or_false] at hx
  rcases hx with (rfl | rfl | rfl | rfl) | hx | hx | hx | rfl | hx | hx
  · rfl
  · rfl
  · rfl
  · rfl
  · exact inV_one _ _ hx
  · exact inV_one _ _ hx
  · exact inV_one _ _ hx
  · rfl
  · exact inV_one _ _ hx
  · exact inV_one _ _ hx
theorem RsOk.of {s : ByteArray} {c : Int} {us rp lr : List Int} {bc : Int} {bi ce : List Int} (h : (rsOf s c us rp lr bc bi ce).length = 35) : RsOk (rsOf s c us rp lr bc bi ce) := ⟨h, rsOf_one _ _ _ _ _ _ _ _, c, rfl⟩
theorem len8 {xs : List Int} (h : xs.length = 8) : ∃ x0 x1 x2 x3 x4 x5 x6 x7, xs = [x0, x1, x2, x3, x4, x5, x6, x7] := by
  match xs, h with
  | [x0, x1, x2, x3, x4, x5, x6, x7], _ => exact ⟨_, _, _, _, _, _, _, _, rfl⟩
theorem len6 {xs : List Int} (h : xs.length = 6) : ∃ x0 x1 x2 x3 x4 x5, xs = [x0, x1, x2, x3, x4, x5] := by
  match xs, h with
  | [x0, x1, x2, x3, x4, x5], _ => exact ⟨_, _, _, _, _, _, rfl⟩
theorem len5 {xs : List Int} (h : xs.length = 5) : ∃ x0 x1 x2 x3 x4, xs = [x0, x1, x2, x3, x4] := by
  match xs, h with
  | [x0, x1, x2, x3, x4], _ => exact ⟨_, _, _, _, _, rfl⟩
theorem len3 {xs : List Int} (h : xs.length = 3) : ∃ x0 x1 x2, xs = [x0, x1, x2] := by
  match xs, h with
  | [x0, x1, x2], _ => exact ⟨_, _, _, rfl⟩
set_option maxRecDepth 100000 in
set_option maxHeartbeats 8000000 in
theorem pl28 (h : AM l S w) (a b c : Int) (ha : U64 a) (hb : U64 b) (hc : U64 c) : Calls Tryz.prog 189 #[.pointer (some ⟨l.a, 0, none⟩), .agg #[.int .u8 28, .int .u64 a, .int .u64 b, .int .u64 c]] w (PyP l S w 28 a b c) := by
  have I0 := hid info_rs
  obtain ⟨p, hp⟩ : ∃ p, w.heap.size = p := ⟨_, rfl⟩
  obtain ⟨r, hr⟩ : ∃ r, p + 1 = r := ⟨_, rfl⟩
  have H0 : Hid (PX l S w p r [.int .u8 28, .int .u64 a, .int .u64 b, .int .u64 c] ((w.alloc (.cells #[.int .u8 28, .int .u64 a, .int .u64 b, .int .u64 c] 31)).alloc (.cells #[.int .u8 0, .int .u64 0, .int .u64 0, .string { data := #[] }, .int .i64 0, .int .i64 0, .int .i64 0, .int .i64 0, .int .i64 0, .int .i64 0, .int .i64 0, .int .i64 0, .int .i64 0, .int .i64 0, .int .i64 0, .int .i64 0, .int .i64 0, .int .i64 0, .int .i64 0, .int .i64 0, .int .u8 0, .int .i64 0, .int .i64 0, .int .i64 0, .int .i64 0, .int .i64 0, .int .i64 0, .int .i64 0, .int .i64 0, .int .i64 0, .int .i64 0, .int .i64 0, .int .i64 0, .int .i64 0, .int .i64 0] 46))) := hid (PX.start h hp hr)
  obtain ⟨na, hna⟩ : ∃ n, nbI a = n := ⟨_, rfl⟩
  have HNna : Hid (∀ wz, Calls Tryz.prog 26 #[.int .u64 a] wz fun e w' => e = .returned (.int .i64 na) ∧ w' = wz) := hid (fun wz => by
    have := number_walk a ha wz
    rw [show wrap64 a = na from hna] at this
    exact this)
  obtain ⟨v, hv⟩ : ∃ v : Int, (if 0 ≤ na ∧ na < 2048 then ((eN 4 16 S.T na.toNat : Nat) : Int) else 0) = v := ⟨_, rfl⟩
  obtain ⟨cd, hcd⟩ : ∃ cd : Int, (if 0 ≤ na ∧ na < 2048 then (0 : Int) else 1) = cd := ⟨_, rfl⟩
  obtain ⟨v2, hv2⟩ : ∃ v2 : Int, IntKind.u64.wrap v = v2 := ⟨_, rfl⟩
  have HK := hid (fun wz (hz : AM l S wz) => (by have := tallyZ hz na; rw [hv, hcd] at this; exact this : Calls Tryz.prog 131 #[.pointer (some ⟨l.a, 0, none⟩), .int .i64 na] wz fun e w' => e = .returned (.tuple #[.int .i64 v, .int .u8 cd]) ∧ Drew wz w'))
  clear hv hcd
  clear h hna
  go_enter Tryz.func189, Tryz.ntmps189
  go_upto_region 1 with fail
  (try simp only [World.size_alloc, hp, hr])
  generalize hw1 : World.alloc (w.alloc _) _ = w1 at H0 ⊢
  clear hw1 hp hr
  obtain ⟨c0, c1, c2, c3⟩ := H0.out.cells
  have HC := hid (H0.out.pure (HNna.out w1))
  go_wp2_with fail
  refine HC.out.mono ?_
  rintro e w2 ⟨rfl, H1⟩
  clear HC H0 c0 c1 c2 c3
  obtain ⟨c0, c1, c2, c3⟩ := H1.out.cells
  have HC := hid (H1.out.drw (HK.out w2 H1.out.am))
  go_wp2_with fail
  refine HC.out.mono ?_
  rintro e w3 ⟨rfl, H2⟩
  clear HC H1 c0 c1 c2 c3
  obtain ⟨c0, c1, c2, c3⟩ := H2.out.cells
  have HC := hid (H2.out.bel (giveZ v2 0 cd w3))
  go_wp2_with fail
  refine HC.out.mono ?_
  rintro e w4 ⟨rfl, H3⟩
  clear HC H2 c0 c1 c2 c3
  obtain ⟨c0, c1, c2, c3⟩ := H3.out.cells
  clear c0 c1 c2 c3
  go_wp2_with (refine wpList_store_blk rfl 46 _ _ rfl r rfl (rsG cd v2 0) rfl H3.out.rb (by first | rfl | (rw [rsG_len]; rfl)) (by first | exact I0.out | (rw [rsG_len]; exact I0.out)) (rsG_one _ _ _) ?_; intro w9 HB9 HU9)
  refine bodyPost_ret (results_blk (cs := rsG cd v2 0) Tryz.results189 rfl (by first | exact agg_rs | (rw [rsG_len]; exact agg_rs)) HB9.out) rfl ?_
  exact PyP.mk rfl (RsOk.g _ _ _) (H3.out.done HU9.out) (PlR.rd rfl (Rd.free (by decide) (by decide)))
set_option maxRecDepth 100000 in
set_option maxHeartbeats 8000000 in
theorem pl29 (h : AM l S w) (a b c : Int) (ha : U64 a) (hb : U64 b) (hc : U64 c) : Calls Tryz.prog 189 #[.pointer (some ⟨l.a, 0, none⟩), .agg #[.int .u8 29, .int .u64 a, .int .u64 b, .int .u64 c]] w (PyP l S w 29 a b c) := by
  have I0 := hid info_rs
  obtain ⟨p, hp⟩ : ∃ p, w.heap.size = p := ⟨_, rfl⟩
  obtain ⟨r, hr⟩ : ∃ r, p + 1 = r := ⟨_, rfl⟩
  have H0 : Hid (PX l S w p r [.int .u8 29, .int .u64 a, .int .u64 b, .int .u64 c] ((w.alloc (.cells #[.int .u8 29, .int .u64 a, .int .u64 b, .int .u64 c] 31)).alloc (.cells #[.int .u8 0, .int .u64 0, .int .u64 0, .string { data := #[] }, .int .i64 0, .int .i64 0, .int .i64 0, .int .i64 0, .int .i64 0, .int .i64 0, .int .i64 0, .int .i64 0, .int .i64 0, .int .i64 0, .int .i64 0, .int .i64 0, .int .i64 0, .int .i64 0, .int .i64 0, .int .i64 0, .int .u8 0, .int .i64 0, .int .i64 0, .int .i64 0, .int .i64 0, .int .i64 0, .int .i64 0, .int .i64 0, .int .i64 0, .int .i64 0, .int .i64 0, .int .i64 0, .int .i64 0, .int .i64 0, .int .i64 0] 46))) := hid (PX.start h hp hr)
  obtain ⟨nb, hnb⟩ : ∃ n, nbI b = n := ⟨_, rfl⟩
  have HNnb : Hid (∀ wz, Calls Tryz.prog 26 #[.int .u64 b] wz fun e w' => e = .returned (.int .i64 nb) ∧ w' = wz) := hid (fun wz => by
    have := number_walk b hb wz
    rw [show wrap64 b = nb from hnb] at this
    exact this)
  obtain ⟨R, hR⟩ : ∃ R, occA S a nb = R := ⟨_, rfl⟩
  have HPl : Hid (plW S 29 a b c = some (R.1, 0, R.2)) := hid (by rw [← hR, ← hnb]; rfl)
  have HU : Hid (∀ wz, AM l S wz → Calls Tryz.prog 233 #[.pointer (some ⟨l.a, 0, none⟩), .int .u64 a, .int .i64 nb] wz fun e w' => e = .returned (.int .u8 R.1) ∧ Hid (AU l wz R.2 w')) := hid (fun wz hz => by
    have := occZ hz a nb
    rw [hR] at this
    exact this)
  clear h hR hnb
  go_enter Tryz.func189, Tryz.ntmps189
  go_upto_region 1 with fail
  (try simp only [World.size_alloc, hp, hr])
  generalize hw1 : World.alloc (w.alloc _) _ = w1 at H0 ⊢
  clear hw1 hp hr
  obtain ⟨c0, c1, c2, c3⟩ := H0.out.cells
  have HC := hid (H0.out.pure (HNnb.out w1))
  go_wp2_with fail
  refine HC.out.mono ?_
  rintro e w2 ⟨rfl, H1⟩
  clear HC H0 c0 c1 c2 c3
  obtain ⟨c0, c1, c2, c3⟩ := H1.out.cells
  have HC := hid (H1.out.upd (HU.out w2 H1.out.am))
  go_wp2_with fail
  refine HC.out.mono ?_
  rintro e w3 ⟨rfl, H2⟩
  clear HC H1 c0 c1 c2 c3
  obtain ⟨c0, c1, c2, c3⟩ := H2.out.cells
  have HC := hid (H2.out.bel (refuse_walk R.1 w3))
  go_wp2_with fail
  refine HC.out.mono ?_
  rintro e w4 ⟨rfl, H3⟩
  clear HC H2 c0 c1 c2 c3
  obtain ⟨c0, c1, c2, c3⟩ := H3.out.cells
  clear c0 c1 c2 c3
  go_wp2_with (refine wpList_store_blk rfl 46 _ _ rfl r rfl (rsC R.1 0 0) rfl H3.out.rb (by first | rfl | (rw [show (rsC R.1 0 0).length = 35 from rfl]; rfl)) (by first | exact I0.out | (rw [show (rsC R.1 0 0).length = 35 from rfl]; exact I0.out)) (rsC_one _ _ _) ?_; intro w9 HB9 HU9)
  refine bodyPost_ret (results_blk (cs := rsC R.1 0 0) Tryz.results189 rfl (by first | exact agg_rs | (rw [show (rsC R.1 0 0).length = 35 from rfl]; exact agg_rs)) HB9.out) rfl ?_
  exact PyP.mk rfl (RsOk.c _ _ _) (H3.out.done HU9.out) (by rw [← rsG_r]; exact PlR.wr HPl.out)
set_option maxRecDepth 100000 in
set_option maxHeartbeats 8000000 in
theorem pl30 (h : AM l S w) (a b c : Int) (ha : U64 a) (hb : U64 b) (hc : U64 c) : Calls Tryz.prog 189 #[.pointer (some ⟨l.a, 0, none⟩), .agg #[.int .u8 30, .int .u64 a, .int .u64 b, .int .u64 c]] w (PyP l S w 30 a b c) := by
  have I0 := hid info_rs
  obtain ⟨p, hp⟩ : ∃ p, w.heap.size = p := ⟨_, rfl⟩
  obtain ⟨r, hr⟩ : ∃ r, p + 1 = r := ⟨_, rfl⟩
  have H0 : Hid (PX l S w p r [.int .u8 30, .int .u64 a, .int .u64 b, .int .u64 c] ((w.alloc (.cells #[.int .u8 30, .int .u64 a, .int .u64 b, .int .u64 c] 31)).alloc (.cells #[.int .u8 0, .int .u64 0, .int .u64 0, .string { data := #[] }, .int .i64 0, .int .i64 0, .int .i64 0, .int .i64 0, .int .i64 0, .int .i64 0, .int .i64 0, .int .i64 0, .int .i64 0, .int .i64 0, .int .i64 0, .int .i64 0, .int .i64 0, .int .i64 0, .int .i64 0, .int .i64 0, .int .u8 0, .int .i64 0, .int .i64 0, .int .i64 0, .int .i64 0, .int .i64 0, .int .i64 0, .int .i64 0, .int .i64 0, .int .i64 0, .int .i64 0, .int .i64 0, .int .i64 0, .int .i64 0, .int .i64 0] 46))) := hid (PX.start h hp hr)
  obtain ⟨nb, hnb⟩ : ∃ n, nbI b = n := ⟨_, rfl⟩
  have HNnb : Hid (∀ wz, Calls Tryz.prog 26 #[.int .u64 b] wz fun e w' => e = .returned (.int .i64 nb) ∧ w' = wz) := hid (fun wz => by
    have := number_walk b hb wz
    rw [show wrap64 b = nb from hnb] at this
    exact this)
  obtain ⟨R, hR⟩ : ∃ R, vacA S a nb = R := ⟨_, rfl⟩
  have HPl : Hid (plW S 30 a b c = some (R.1, 0, R.2)) := hid (by rw [← hR, ← hnb]; rfl)
  have HU : Hid (∀ wz, AM l S wz → Calls Tryz.prog 234 #[.pointer (some ⟨l.a, 0, none⟩), .int .u64 a, .int .i64 nb] wz fun e w' => e = .returned (.int .u8 R.1) ∧ Hid (AU l wz R.2 w')) := hid (fun wz hz => by
    have := vacZ hz a nb
    rw [hR] at this
    exact this)
  clear h hR hnb
  go_enter Tryz.func189, Tryz.ntmps189
  go_upto_region 1 with fail
  (try simp only [World.size_alloc, hp, hr])
  generalize hw1 : World.alloc (w.alloc _) _ = w1 at H0 ⊢
  clear hw1 hp hr
  obtain ⟨c0, c1, c2, c3⟩ := H0.out.cells
  have HC := hid (H0.out.pure (HNnb.out w1))
  go_wp2_with fail
  refine HC.out.mono ?_
  rintro e w2 ⟨rfl, H1⟩
  clear HC H0 c0 c1 c2 c3
  obtain ⟨c0, c1, c2, c3⟩ := H1.out.cells
  have HC := hid (H1.out.upd (HU.out w2 H1.out.am))
  go_wp2_with fail
  refine HC.out.mono ?_
  rintro e w3 ⟨rfl, H2⟩
  clear HC H1 c0 c1 c2 c3
  obtain ⟨c0, c1, c2, c3⟩ := H2.out.cells
  have HC := hid (H2.out.bel (refuse_walk R.1 w3))
  go_wp2_with fail
  refine HC.out.mono ?_
  rintro e w4 ⟨rfl, H3⟩
  clear HC H2 c0 c1 c2 c3
  obtain ⟨c0, c1, c2, c3⟩ := H3.out.cells
  clear c0 c1 c2 c3
  go_wp2_with (refine wpList_store_blk rfl 46 _ _ rfl r rfl (rsC R.1 0 0) rfl H3.out.rb (by first | rfl | (rw [show (rsC R.1 0 0).length = 35 from rfl]; rfl)) (by first | exact I0.out | (rw [show (rsC R.1 0 0).length = 35 from rfl]; exact I0.out)) (rsC_one _ _ _) ?_; intro w9 HB9 HU9)
  refine bodyPost_ret (results_blk (cs := rsC R.1 0 0) Tryz.results189 rfl (by first | exact agg_rs | (rw [show (rsC R.1 0 0).length = 35 from rfl]; exact agg_rs)) HB9.out) rfl ?_
  exact PyP.mk rfl (RsOk.c _ _ _) (H3.out.done HU9.out) (by rw [← rsG_r]; exact PlR.wr HPl.out)
set_option maxRecDepth 100000 in
set_option maxHeartbeats 8000000 in
theorem pl31 (h : AM l S w) (a b c : Int) (ha : U64 a) (hb : U64 b) (hc : U64 c) : Calls Tryz.prog 189 #[.pointer (some ⟨l.a, 0, none⟩), .agg #[.int .u8 31, .int .u64 a, .int .u64 b, .int .u64 c]] w (PyP l S w 31 a b c) := by
  have I0 := hid info_rs
  obtain ⟨p, hp⟩ : ∃ p, w.heap.size = p := ⟨_, rfl⟩
  obtain ⟨r, hr⟩ : ∃ r, p + 1 = r := ⟨_, rfl⟩
  have H0 : Hid (PX l S w p r [.int .u8 31, .int .u64 a, .int .u64 b, .int .u64 c] ((w.alloc (.cells #[.int .u8 31, .int .u64 a, .int .u64 b, .int .u64 c] 31)).alloc (.cells #[.int .u8 0, .int .u64 0, .int .u64 0, .string { data := #[] }, .int .i64 0, .int .i64 0, .int .i64 0, .int .i64 0, .int .i64 0, .int .i64 0, .int .i64 0, .int .i64 0, .int .i64 0, .int .i64 0, .int .i64 0, .int .i64 0, .int .i64 0, .int .i64 0, .int .i64 0, .int .i64 0, .int .u8 0, .int .i64 0, .int .i64 0, .int .i64 0, .int .i64 0, .int .i64 0, .int .i64 0, .int .i64 0, .int .i64 0, .int .i64 0, .int .i64 0, .int .i64 0, .int .i64 0, .int .i64 0, .int .i64 0] 46))) := hid (PX.start h hp hr)
  obtain ⟨na, hna⟩ : ∃ n, nbI a = n := ⟨_, rfl⟩
  have HNna : Hid (∀ wz, Calls Tryz.prog 26 #[.int .u64 a] wz fun e w' => e = .returned (.int .i64 na) ∧ w' = wz) := hid (fun wz => by
    have := number_walk a ha wz
    rw [show wrap64 a = na from hna] at this
    exact this)
  obtain ⟨v, hv⟩ : ∃ v : Int, flV S na = v := ⟨_, rfl⟩
  obtain ⟨cd, hcd⟩ : ∃ cd : Int, blC na = cd := ⟨_, rfl⟩
  obtain ⟨v2, hv2⟩ : ∃ v2 : Int, IntKind.u64.wrap v = v2 := ⟨_, rfl⟩
  have HK := hid (fun wz (hz : AM l S wz) => (by have := freeLinesZ hz na; rw [hv, hcd] at this; exact this.mono (fun e w' h => ⟨h.1, h.2.out.1⟩) : Calls Tryz.prog 50 #[.pointer (some ⟨l.a, 0, none⟩), .int .i64 na] wz fun e w' => e = .returned (.tuple #[.int .i64 v, .int .u8 cd]) ∧ Below wz.heap.size wz w'))
  clear hv hcd
  clear h hna
  go_enter Tryz.func189, Tryz.ntmps189
  go_upto_region 1 with fail
  (try simp only [World.size_alloc, hp, hr])
  generalize hw1 : World.alloc (w.alloc _) _ = w1 at H0 ⊢
  clear hw1 hp hr
  obtain ⟨c0, c1, c2, c3⟩ := H0.out.cells
  have HC := hid (H0.out.pure (HNna.out w1))
  go_wp2_with fail
  refine HC.out.mono ?_
  rintro e w2 ⟨rfl, H1⟩
  clear HC H0 c0 c1 c2 c3
  obtain ⟨c0, c1, c2, c3⟩ := H1.out.cells
  have HC := hid (H1.out.bel (HK.out w2 H1.out.am))
  go_wp2_with fail
  refine HC.out.mono ?_
  rintro e w3 ⟨rfl, H2⟩
  clear HC H1 c0 c1 c2 c3
  obtain ⟨c0, c1, c2, c3⟩ := H2.out.cells
  have HC := hid (H2.out.bel (giveZ v2 0 cd w3))
  go_wp2_with fail
  refine HC.out.mono ?_
  rintro e w4 ⟨rfl, H3⟩
  clear HC H2 c0 c1 c2 c3
  obtain ⟨c0, c1, c2, c3⟩ := H3.out.cells
  clear c0 c1 c2 c3
  go_wp2_with (refine wpList_store_blk rfl 46 _ _ rfl r rfl (rsG cd v2 0) rfl H3.out.rb (by first | rfl | (rw [rsG_len]; rfl)) (by first | exact I0.out | (rw [rsG_len]; exact I0.out)) (rsG_one _ _ _) ?_; intro w9 HB9 HU9)
  refine bodyPost_ret (results_blk (cs := rsG cd v2 0) Tryz.results189 rfl (by first | exact agg_rs | (rw [rsG_len]; exact agg_rs)) HB9.out) rfl ?_
  exact PyP.mk rfl (RsOk.g _ _ _) (H3.out.done HU9.out) (PlR.rd rfl (Rd.free (by decide) (by decide)))
set_option maxRecDepth 100000 in
set_option maxHeartbeats 8000000 in
theorem pl32 (h : AM l S w) (a b c : Int) (ha : U64 a) (hb : U64 b) (hc : U64 c) : Calls Tryz.prog 189 #[.pointer (some ⟨l.a, 0, none⟩), .agg #[.int .u8 32, .int .u64 a, .int .u64 b, .int .u64 c]] w (PyP l S w 32 a b c) := by
  have I0 := hid info_rs
  obtain ⟨p, hp⟩ : ∃ p, w.heap.size = p := ⟨_, rfl⟩
  obtain ⟨r, hr⟩ : ∃ r, p + 1 = r := ⟨_, rfl⟩
  have H0 : Hid (PX l S w p r [.int .u8 32, .int .u64 a, .int .u64 b, .int .u64 c] ((w.alloc (.cells #[.int .u8 32, .int .u64 a, .int .u64 b, .int .u64 c] 31)).alloc (.cells #[.int .u8 0, .int .u64 0, .int .u64 0, .string { data := #[] }, .int .i64 0, .int .i64 0, .int .i64 0, .int .i64 0, .int .i64 0, .int .i64 0, .int .i64 0, .int .i64 0, .int .i64 0, .int .i64 0, .int .i64 0, .int .i64 0, .int .i64 0, .int .i64 0, .int .i64 0, .int .i64 0, .int .u8 0, .int .i64 0, .int .i64 0, .int .i64 0, .int .i64 0, .int .i64 0, .int .i64 0, .int .i64 0, .int .i64 0, .int .i64 0, .int .i64 0, .int .i64 0, .int .i64 0, .int .i64 0, .int .i64 0] 46))) := hid (PX.start h hp hr)
  obtain ⟨na, hna⟩ : ∃ n, nbI a = n := ⟨_, rfl⟩
  have HNna : Hid (∀ wz, Calls Tryz.prog 26 #[.int .u64 a] wz fun e w' => e = .returned (.int .i64 na) ∧ w' = wz) := hid (fun wz => by
    have := number_walk a ha wz
    rw [show wrap64 a = na from hna] at this
    exact this)
  obtain ⟨v, hv⟩ : ∃ v : Int, (if BkI na then clV (flV S na) else 2) = v := ⟨_, rfl⟩
  obtain ⟨cd, hcd⟩ : ∃ cd : Int, blC na = cd := ⟨_, rfl⟩
  obtain ⟨v2, hv2⟩ : ∃ v2 : Int, IntKind.u64.wrap v = v2 := ⟨_, rfl⟩
  have HK := hid (fun wz (hz : AM l S wz) => (by have := blockClassZ hz na; rw [hv, hcd] at this; exact this.mono (fun e w' h => ⟨h.1, h.2.out⟩) : Calls Tryz.prog 51 #[.pointer (some ⟨l.a, 0, none⟩), .int .i64 na] wz fun e w' => e = .returned (.tuple #[.int .u8 v, .int .u8 cd]) ∧ Below wz.heap.size wz w'))
  clear hv hcd
  clear h hna
  go_enter Tryz.func189, Tryz.ntmps189
  go_upto_region 1 with fail
  (try simp only [World.size_alloc, hp, hr])
  generalize hw1 : World.alloc (w.alloc _) _ = w1 at H0 ⊢
  clear hw1 hp hr
  obtain ⟨c0, c1, c2, c3⟩ := H0.out.cells
  have HC := hid (H0.out.pure (HNna.out w1))
  go_wp2_with fail
  refine HC.out.mono ?_
  rintro e w2 ⟨rfl, H1⟩
  clear HC H0 c0 c1 c2 c3
  obtain ⟨c0, c1, c2, c3⟩ := H1.out.cells
  have HC := hid (H1.out.bel (HK.out w2 H1.out.am))
  go_wp2_with fail
  refine HC.out.mono ?_
  rintro e w3 ⟨rfl, H2⟩
  clear HC H1 c0 c1 c2 c3
  obtain ⟨c0, c1, c2, c3⟩ := H2.out.cells
  have HC := hid (H2.out.bel (giveZ v2 0 cd w3))
  go_wp2_with fail
  refine HC.out.mono ?_
  rintro e w4 ⟨rfl, H3⟩
  clear HC H2 c0 c1 c2 c3
  obtain ⟨c0, c1, c2, c3⟩ := H3.out.cells
  clear c0 c1 c2 c3
  go_wp2_with (refine wpList_store_blk rfl 46 _ _ rfl r rfl (rsG cd v2 0) rfl H3.out.rb (by first | rfl | (rw [rsG_len]; rfl)) (by first | exact I0.out | (rw [rsG_len]; exact I0.out)) (rsG_one _ _ _) ?_; intro w9 HB9 HU9)
  refine bodyPost_ret (results_blk (cs := rsG cd v2 0) Tryz.results189 rfl (by first | exact agg_rs | (rw [rsG_len]; exact agg_rs)) HB9.out) rfl ?_
  exact PyP.mk rfl (RsOk.g _ _ _) (H3.out.done HU9.out) (PlR.rd rfl (Rd.free (by decide) (by decide)))
set_option maxRecDepth 100000 in
set_option maxHeartbeats 8000000 in
theorem pl49 (h : AM l S w) (a b c : Int) (ha : U64 a) (hb : U64 b) (hc : U64 c) : Calls Tryz.prog 189 #[.pointer (some ⟨l.a, 0, none⟩), .agg #[.int .u8 49, .int .u64 a, .int .u64 b, .int .u64 c]] w (PyP l S w 49 a b c) := by
  have I0 := hid info_rs
  obtain ⟨p, hp⟩ : ∃ p, w.heap.size = p := ⟨_, rfl⟩
  obtain ⟨r, hr⟩ : ∃ r, p + 1 = r := ⟨_, rfl⟩
  have H0 : Hid (PX l S w p r [.int .u8 49, .int .u64 a, .int .u64 b, .int .u64 c] ((w.alloc (.cells #[.int .u8 49, .int .u64 a, .int .u64 b, .int .u64 c] 31)).alloc (.cells #[.int .u8 0, .int .u64 0, .int .u64 0, .string { data := #[] }, .int .i64 0, .int .i64 0, .int .i64 0, .int .i64 0, .int .i64 0, .int .i64 0, .int .i64 0, .int .i64 0, .int .i64 0, .int .i64 0, .int .i64 0, .int .i64 0, .int .i64 0, .int .i64 0, .int .i64 0, .int .i64 0, .int .u8 0, .int .i64 0, .int .i64 0, .int .i64 0, .int .i64 0, .int .i64 0, .int .i64 0, .int .i64 0, .int .i64 0, .int .i64 0, .int .i64 0, .int .i64 0, .int .i64 0, .int .i64 0, .int .i64 0] 46))) := hid (PX.start h hp hr)
  obtain ⟨na, hna⟩ : ∃ n, nbI a = n := ⟨_, rfl⟩
  have HNna : Hid (∀ wz, Calls Tryz.prog 26 #[.int .u64 a] wz fun e w' => e = .returned (.int .i64 na) ∧ w' = wz) := hid (fun wz => by
    have := number_walk a ha wz
    rw [show wrap64 a = na from hna] at this
    exact this)
  have HK := hid (fun wz (hz : AM l S wz) => largestHoleZ hz na)
  clear h hna
  go_enter Tryz.func189, Tryz.ntmps189
  go_upto_region 1 with fail
  (try simp only [World.size_alloc, hp, hr])
  generalize hw1 : World.alloc (w.alloc _) _ = w1 at H0 ⊢
  clear hw1 hp hr
  obtain ⟨c0, c1, c2, c3⟩ := H0.out.cells
  have HC := hid (H0.out.pure (HNna.out w1))
  go_wp2_with fail
  refine HC.out.mono ?_
  rintro e w2 ⟨rfl, H1⟩
  clear HC H0 c0 c1 c2 c3
  obtain ⟨c0, c1, c2, c3⟩ := H1.out.cells
  have HC := hid (HK.out w2 H1.out.am)
  go_wp2_with fail
  refine HC.out.mono ?_
  rintro e w3 ⟨v, u, cd, rfl, hb_⟩
  have H2 := hid (H1.out.below hb_.out.2)
  clear hb_
  obtain ⟨v2, hv2⟩ : ∃ vv_ : Int, IntKind.u64.wrap (v) = vv_ := ⟨_, rfl⟩
  obtain ⟨u2, hu2⟩ : ∃ vv_ : Int, IntKind.u64.wrap (u) = vv_ := ⟨_, rfl⟩
  clear HC H1 c0 c1 c2 c3
  obtain ⟨c0, c1, c2, c3⟩ := H2.out.cells
  have HC := hid (H2.out.bel (giveZ v2 u2 cd w3))
  go_wp2_with fail
  refine HC.out.mono ?_
  rintro e w4 ⟨rfl, H3⟩
  clear HC H2 c0 c1 c2 c3
  obtain ⟨c0, c1, c2, c3⟩ := H3.out.cells
  clear c0 c1 c2 c3
  go_wp2_with (refine wpList_store_blk rfl 46 _ _ rfl r rfl (rsG cd v2 u2) rfl H3.out.rb (by first | rfl | (rw [rsG_len]; rfl)) (by first | exact I0.out | (rw [rsG_len]; exact I0.out)) (rsG_one _ _ _) ?_; intro w9 HB9 HU9)
  refine bodyPost_ret (results_blk (cs := rsG cd v2 u2) Tryz.results189 rfl (by first | exact agg_rs | (rw [rsG_len]; exact agg_rs)) HB9.out) rfl ?_
  exact PyP.mk rfl (RsOk.g _ _ _) (H3.out.done HU9.out) (PlR.rd rfl (Rd.free (by decide) (by decide)))
end
end Go.Proofs.Qxb6500887aGreat
