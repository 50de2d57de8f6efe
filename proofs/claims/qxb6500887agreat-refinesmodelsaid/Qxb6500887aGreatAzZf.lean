/- Steps of playObjects (written by tools/mk_azzd.py). -/
import Derived.Test.Qxb6500887aGreatAzZd
namespace Go.Proofs.Qxb6500887aGreat
open Go.RowKit
set_option linter.unusedSimpArgs false
set_option linter.unusedVariables false
section
variable {l : AL} {S S' : AS} {w w' w0 : World}
set_option maxRecDepth 100000 in
set_option maxHeartbeats 8000000 in
theorem pl47 (h : AM l S w) (a b c : Int) (ha : U64 a) (hb : U64 b) (hc : U64 c) : Calls Tryz.prog 86 #[.pointer (some ⟨l.a, 0, none⟩), .agg #[.int .u8 47, .int .u64 a, .int .u64 b, .int .u64 c]] w (PyP l S w 47 a b c) := by
  have I0 := hid info_rs
  obtain ⟨p, hp⟩ : ∃ p, w.heap.size = p := ⟨_, rfl⟩
  obtain ⟨r, hr⟩ : ∃ r, p + 1 = r := ⟨_, rfl⟩
  have H0 : Hid (PX l S w p r [.int .u8 47, .int .u64 a, .int .u64 b, .int .u64 c] ((w.alloc (.cells #[.int .u8 47, .int .u64 a, .int .u64 b, .int .u64 c] 31)).alloc (.cells #[.int .u8 0, .int .u64 0, .int .u64 0, .string { data := #[] }, .int .i64 0, .int .i64 0, .int .i64 0, .int .i64 0, .int .i64 0, .int .i64 0, .int .i64 0, .int .i64 0, .int .i64 0, .int .i64 0, .int .i64 0, .int .i64 0, .int .i64 0, .int .i64 0, .int .i64 0, .int .i64 0, .int .u8 0, .int .i64 0, .int .i64 0, .int .i64 0, .int .i64 0, .int .i64 0, .int .i64 0, .int .i64 0, .int .i64 0, .int .i64 0, .int .i64 0, .int .i64 0, .int .i64 0, .int .i64 0, .int .i64 0] 46))) := hid (PX.start h hp hr)
  clear h
  go_enter Tryz.func86, Tryz.ntmps86
  go_upto_region 1 with fail
  (try simp only [World.size_alloc, hp, hr])
  generalize hw1 : World.alloc (w.alloc _) _ = w1 at H0 ⊢
  clear hw1 hp hr
  obtain ⟨c0, c1, c2, c3⟩ := H0.out.cells
  have Hlen := hid (onL_len l S a)
  have Hone := hid (onL_one l S a)
  have HC := hid (openZ H0.out.am a)
  have HOk := hid (fun (hc : onC S a = 0) => onC_ok H0.out.am hc)
  have HRd : Hid (wantO a ≠ 0 → onC S a = wantO a) := hid (fun hi => onC_bad hi)
  have I1 := hid info_ob
  go_wp2_with fail
  refine HC.out.mono ?_
  rintro e w2 ⟨rfl, hb_⟩
  have H1 := hid (H0.out.below hb_)
  clear hb_ HC H0 c0 c1 c2 c3
  obtain ⟨q, hq⟩ : ∃ q, w2.heap.size = q := ⟨_, rfl⟩
  have HN : Hid (PX l S w p r [.int .u8 47, .int .u64 a, .int .u64 b, .int .u64 c] (w2.alloc (.cells #[.pointer none, .int .i64 0, .int .u64 0, .int .i64 0, .int .i64 0] 61)) ∧ Blk (w2.alloc (.cells #[.pointer none, .int .i64 0, .int .u64 0, .int .i64 0, .int .i64 0] 61)) q 61 ob0 ∧ w.heap.size ≤ q) := hid (by
    have kk := Blk.new w2 ob0 61
    rw [hq] at kk
    have := H1.out.au.u.size
    exact ⟨H1.out.below (nbel _ _), kk, by omega⟩)
  (try simp only [hq])
  go_upto_region 29 with (refine wpList_store_blk rfl 61 _ _ rfl q rfl (onL l S a) rfl HN.out.2.1 (by rw [Hlen.out]; rfl) (by rw [Hlen.out]; exact I1.out) Hone.out ?_; intro w4 HB4 HU4)
  have H2 : Hid (PO l S w p r [.int .u8 47, .int .u64 a, .int .u64 b, .int .u64 c] q (onL l S a) w4) := hid ⟨HN.out.1.oth HN.out.2.2 HN.out.2.1 (by decide) (by decide) HU4.out, HB4.out⟩
  clear HB4 HU4 HN hq H1
  by_cases hc0 : onC S a = 0
  rotate_left
  · as_aux_lemma =>
    have dc : (onC S a == 0) = false := by simpa using hc0
    have dc2 : (onC S a != 0) = true := by simp [bne, dc]
    generalize onC S a = cd at *
    clear hc0
    have H3 := hid H2.out.px
    obtain ⟨c0, c1, c2, c3⟩ := H3.out.cells
    have HC := hid (H3.out.bel (refuse_walk cd w4))
    go_wp2_with fail
    refine HC.out.mono ?_
    rintro e w5 ⟨rfl, H4⟩
    clear HC H3 c0 c1 c2 c3
    obtain ⟨c0, c1, c2, c3⟩ := H4.out.cells
    clear c0 c1 c2 c3
    go_wp2_with (refine wpList_store_blk rfl 46 _ _ rfl r rfl (rsC cd 0 0) rfl H4.out.rb (by first | rfl | (rw [show (rsC cd 0 0).length = 35 from rfl]; rfl)) (by first | exact I0.out | (rw [show (rsC cd 0 0).length = 35 from rfl]; exact I0.out)) (rsC_one _ _ _) ?_; intro w9 HB9 HU9)
    refine bodyPost_ret (results_blk (cs := rsC cd 0 0) Tryz.results86 rfl (by first | exact agg_rs | (rw [show (rsC cd 0 0).length = 35 from rfl]; exact agg_rs)) HB9.out) rfl ?_
    exact PyP.mk rfl (RsOk.c _ _ _) (H4.out.done HU9.out) (PlR.rd rfl (Rd.obj (fun h => by rw [HRd.out h]) (by decide)))
  as_aux_lemma =>
  obtain ⟨hwo, _, e1, hob⟩ := HOk.out hc0
  rw [e1] at H2
  rw [hc0]
  have HRd2 : Hid (wantO a ≠ 0 → False) := hid (fun hi => hi hwo)
  clear HOk Hlen Hone HRd hc0 e1 hwo
  generalize hoo : opO S (gIx a) = o at *
  clear hoo
  have q0 := H2.out.ob.cell 0
  have q1 := H2.out.ob.cell 1
  have q2 := H2.out.ob.cell 2
  have q3 := H2.out.ob.cell 3
  have q4 := H2.out.ob.cell 4
  simp only [obL, List.getElem?_cons_zero, List.getElem?_cons_succ] at q0 q1 q2 q3 q4
  have HHo := hid (housedZ H2.out.px.am hob)
  generalize hsV S o = bb at *
  go_wp2_with fail
  refine HHo.out.mono ?_
  rintro e w5 ⟨rfl, hb5⟩
  have H5 := hid (H2.out.px.below hb5.out)
  clear hb5 HHo H2 q0 q1 q2 q3 q4
  obtain ⟨c0, c1, c2, c3⟩ := H5.out.cells
  have HC := hid (H5.out.pure (flagZ bb w5))
  go_wp2_with fail
  refine HC.out.mono ?_
  rintro e w7 ⟨rfl, H6⟩
  clear HC H5 c0 c1 c2 c3
  obtain ⟨c0, c1, c2, c3⟩ := H6.out.cells
  clear c0 c1 c2 c3
  go_wp2_with (refine wpList_store_blk rfl 46 _ _ rfl r rfl (rsC 0 ((bitN bb : Nat) : Int) 0) rfl H6.out.rb (by first | rfl | (rw [show (rsC 0 ((bitN bb : Nat) : Int) 0).length = 35 from rfl]; rfl)) (by first | exact I0.out | (rw [show (rsC 0 ((bitN bb : Nat) : Int) 0).length = 35 from rfl]; exact I0.out)) (rsC_one _ _ _) ?_; intro w9 HB9 HU9)
  refine bodyPost_ret (results_blk (cs := rsC 0 ((bitN bb : Nat) : Int) 0) Tryz.results86 rfl (by first | exact agg_rs | (rw [show (rsC 0 ((bitN bb : Nat) : Int) 0).length = 35 from rfl]; exact agg_rs)) HB9.out) rfl ?_
  exact PyP.mk rfl (RsOk.c _ _ _) (H6.out.done HU9.out) (PlR.rd rfl (Rd.obj (fun h => (HRd2.out h).elim) (by decide)))
end
end Go.Proofs.Qxb6500887aGreat
