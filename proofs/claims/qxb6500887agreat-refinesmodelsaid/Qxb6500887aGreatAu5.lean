/- Reading steps with their answers (written by tools/mk_au.py). -/
import Derived.Test.Qxb6500887aGreatAv5
import Derived.Test.Qxb6500887aGreatAx7
import Derived.Test.Qxb6500887aGreatAzZd
import Derived.Deep.DeepCutAuto
namespace Go.Proofs.Qxb6500887aGreat
open Go.RowKit
set_option linter.unusedSimpArgs false
set_option linter.unusedVariables false
section
variable {l : AL} {S S' : AS} {w w' w0 : World}
set_option maxRecDepth 100000 in
set_option maxHeartbeats 8000000 in
theorem px44 (h : AM l S w) (a b c : Int) (ha : U64 a) (hb : U64 b) (hc : U64 c) : Calls Tryz.prog 86 #[.pointer (some ⟨l.a, 0, none⟩), .agg #[.int .u8 44, .int .u64 a, .int .u64 b, .int .u64 c]] w (PyE l S w (stR (abE S) 44 a b c).1) := by
  have I0 := hid info_rs
  obtain ⟨p, hp⟩ : ∃ p, w.heap.size = p := ⟨_, rfl⟩
  obtain ⟨r, hr⟩ : ∃ r, p + 1 = r := ⟨_, rfl⟩
  have H0 : Hid (PX l S w p r [.int .u8 44, .int .u64 a, .int .u64 b, .int .u64 c] ((w.alloc (.cells #[.int .u8 44, .int .u64 a, .int .u64 b, .int .u64 c] 31)).alloc (.cells #[.int .u8 0, .int .u64 0, .int .u64 0, .string { data := #[] }, .int .i64 0, .int .i64 0, .int .i64 0, .int .i64 0, .int .i64 0, .int .i64 0, .int .i64 0, .int .i64 0, .int .i64 0, .int .i64 0, .int .i64 0, .int .i64 0, .int .i64 0, .int .i64 0, .int .i64 0, .int .i64 0, .int .u8 0, .int .i64 0, .int .i64 0, .int .i64 0, .int .i64 0, .int .i64 0, .int .i64 0, .int .i64 0, .int .i64 0, .int .i64 0, .int .i64 0, .int .i64 0, .int .i64 0, .int .i64 0, .int .i64 0] 46))) := hid (PX.start h hp hr)
  obtain ⟨nb, hnb⟩ : ∃ n, nbI b = n := ⟨_, rfl⟩
  have HNnb : Hid (∀ wz, Calls Tryz.prog 26 #[.int .u64 b] wz fun e w' => e = .returned (.int .i64 nb) ∧ w' = wz) := hid (fun wz => by
    have := number_walk b hb wz
    rw [show wrap64 b = nb from hnb] at this
    exact this)
  obtain ⟨nc, hnc⟩ : ∃ n, nbI c = n := ⟨_, rfl⟩
  have HNnc : Hid (∀ wz, Calls Tryz.prog 26 #[.int .u64 c] wz fun e w' => e = .returned (.int .i64 nc) ∧ w' = wz) := hid (fun wz => by
    have := number_walk c hc wz
    rw [show wrap64 c = nc from hnc] at this
    exact this)
  have HNb_ := hid hnb
  have HNc_ := hid hnc
  clear h hnb hnc
  go_enter Tryz.func86, Tryz.ntmps86
  go_upto_region 1 with fail
  (try simp only [World.size_alloc, hp, hr])
  generalize hw1 : World.alloc (w.alloc _) _ = w1 at H0 ⊢
  clear hw1 hp hr
  obtain ⟨c0, c1, c2, c3⟩ := H0.out.cells
  have Hlen := hid (onL_len l S a)
  have Hone := hid (onL_one l S a)
  have HC := hid (openZ H0.out.am a)
  have HOk := hid (fun (hc : onC S a = 0) => onC_ok H0.out.am hc)
  have HRd : Hid (wantO a ≠ 0 → onC S a = wantO a) := hid (fun hi => onC_bad hi)
  have I1 := hid info_ob
  go_wp2_with fail
  refine HC.out.mono ?_
  rintro e w2 ⟨rfl, hb_⟩
  have H1 := hid (H0.out.below hb_)
  clear hb_ HC H0 c0 c1 c2 c3
  obtain ⟨q, hq⟩ : ∃ q, w2.heap.size = q := ⟨_, rfl⟩
  have HN : Hid (PX l S w p r [.int .u8 44, .int .u64 a, .int .u64 b, .int .u64 c] (w2.alloc (.cells #[.pointer none, .int .i64 0, .int .u64 0, .int .i64 0, .int .i64 0] 61)) ∧ Blk (w2.alloc (.cells #[.pointer none, .int .i64 0, .int .u64 0, .int .i64 0, .int .i64 0] 61)) q 61 ob0 ∧ w.heap.size ≤ q) := hid (by
    have kk := Blk.new w2 ob0 61
    rw [hq] at kk
    have := H1.out.au.u.size
    exact ⟨H1.out.below (nbel _ _), kk, by omega⟩)
  (try simp only [hq])
  go_upto_region 11 with (refine wpList_store_blk rfl 61 _ _ rfl q rfl (onL l S a) rfl HN.out.2.1 (by rw [Hlen.out]; rfl) (by rw [Hlen.out]; exact I1.out) Hone.out ?_; intro w4 HB4 HU4)
  have H2 : Hid (PO l S w p r [.int .u8 44, .int .u64 a, .int .u64 b, .int .u64 c] q (onL l S a) w4) := hid ⟨HN.out.1.oth HN.out.2.2 HN.out.2.1 (by decide) (by decide) HU4.out, HB4.out⟩
  clear HB4 HU4 HN hq H1
  by_cases hc0 : onC S a = 0
  rotate_left
  · as_aux_lemma =>
    have dc : (onC S a == 0) = false := by simpa using hc0
    have dc2 : (onC S a != 0) = true := by simp [bne, dc]
    have HEq : Hid (rsC (onC S a) 0 0 = (stR (abE S) 44 a b c).1) := hid (rdo44 hc0)
    generalize onC S a = cd at *
    clear hc0
    have H3 := hid H2.out.px
    obtain ⟨c0, c1, c2, c3⟩ := H3.out.cells
    have HC := hid (H3.out.bel (refuse_walk cd w4))
    go_wp2_with fail
    refine HC.out.mono ?_
    rintro e w5 ⟨rfl, H4⟩
    clear HC H3 c0 c1 c2 c3
    obtain ⟨c0, c1, c2, c3⟩ := H4.out.cells
    clear c0 c1 c2 c3
    go_wp2_with (refine wpList_store_blk rfl 46 _ _ rfl r rfl (rsC cd 0 0) rfl H4.out.rb (by first | rfl | (rw [show (rsC cd 0 0).length = 35 from rfl]; rfl)) (by first | exact I0.out | (rw [show (rsC cd 0 0).length = 35 from rfl]; exact I0.out)) (rsC_one _ _ _) ?_; intro w9 HB9 HU9)
    refine bodyPost_ret (results_blk (cs := rsC cd 0 0) Tryz.results86 rfl (by first | exact agg_rs | (rw [show (rsC cd 0 0).length = 35 from rfl]; exact agg_rs)) HB9.out) rfl ?_
    exact PyE.mk rfl (HEq.out) (H4.out.done HU9.out)
  as_aux_lemma =>
  obtain ⟨hwo, _, e1, hob⟩ := HOk.out hc0
  have Hc0 := hid hc0
  rw [e1] at H2
  rw [hc0]
  have HRd2 : Hid (wantO a ≠ 0 → False) := hid (fun hi => hi hwo)
  clear HOk Hlen Hone HRd hc0 e1 hwo
  generalize hoo : opO S (gIx a) = o at *
  have Hoo := hid hoo
  clear hoo
  have q0 := H2.out.ob.cell 0
  have q1 := H2.out.ob.cell 1
  have q2 := H2.out.ob.cell 2
  have q3 := H2.out.ob.cell 3
  have q4 := H2.out.ob.cell 4
  simp only [obL, List.getElem?_cons_zero, List.getElem?_cons_succ] at q0 q1 q2 q3 q4
  clear q0 q1 q2 q3 q4
  go_upto_region 13 with fail
  refine wp_region_hlh (fun wz => Blk wz p 31 [.int .u8 44, .int .u64 a, .int .u64 b, .int .u64 c] ∧ Blk wz q 61 (obL l o)) 15 [0, 1, 2, 3, 4, 5, 6] [7, 8] [9, 10, 11, 12, 13, 14] [] rfl (by kernel_rfl) (by kernel_rfl) (fun d _ _ _ _ h => by cases d <;> exact h) ⟨(H2.out.below (Drew.below ⟨1, rfl⟩ _)).px.op, (H2.out.below (Drew.below ⟨1, rfl⟩ _)).ob⟩ ?_
  apply Exists.intro
  refine ⟨?_, ?_⟩
  · intro W hW
    have d2 : ∀ x, (W x).cell? ⟨p, 2, none⟩ = some (.int .u64 b) := fun x => (hW x).1.cell 2
    have d3 : ∀ x, (W x).cell? ⟨p, 3, none⟩ = some (.int .u64 c) := fun x => (hW x).1.cell 3
    have z0 : ∀ x, (W x).cell? ⟨q, 0, none⟩ = some (.pointer (some ⟨l.a, 0, none⟩)) := fun x => (hW x).2.cell 0
    have z1 : ∀ x, (W x).cell? ⟨q, 1, none⟩ = some (.int .i64 (o.k : Int)) := fun x => (hW x).2.cell 1
    have z2 : ∀ x, (W x).cell? ⟨q, 2, none⟩ = some (.int .u64 (o.raw : Int)) := fun x => (hW x).2.cell 2
    have z3 : ∀ x, (W x).cell? ⟨q, 3, none⟩ = some (.int .i64 (o.sz : Int)) := fun x => (hW x).2.cell 3
    have z4 : ∀ x, (W x).cell? ⟨q, 4, none⟩ = some (.int .i64 (o.rf : Int)) := fun x => (hW x).2.cell 4
    clear hW
    simp only [List.take, opsAt, List.drop, List.cons_append, List.nil_append]
    repeat (go_big_quiet_step (first | (go_at_call 26; first | with_reducible exact Calls.class_same (HNnb.out _) | with_reducible exact Calls.class_same (HNnc.out _))))
    exact rfl
  simp only [List.take, List.drop, opsAt, List.cons_append, List.nil_append, wpHvK]
  have H3 : Hid (PO l S w p r [.int .u8 44, .int .u64 a, .int .u64 b, .int .u64 c] q (obL l o) w4.drew) := hid (H2.out.below (Drew.below ⟨1, rfl⟩ _))
  generalize w4.drew = w5 at H3 ⊢
  clear H2
  have HAp := hid (appendSomeZ H3.out.px.am hob nb nc)
  go_wp2_with fail
  refine HAp.out.mono ?_
  rintro e w6 ⟨v, nx, cd, rfl, HA6⟩
  have H6 := hid (H3.out.below HA6.out.1)
  have hrow : ∃ xs, OwR rtA w5.heap.size w6 v xs ∧ As0 S o nb nc xs nx cd := by
    rcases HA6.out.2 with ⟨k1, _, _, rfl⟩ | ⟨_, k2, k3, _, rfl⟩ | ⟨_, k2, k3, k4, _, rfl⟩ | ⟨_, k2, k3, m, k4, ⟨k5, k6, k7, h⟩ | ⟨k5, k6, k7, h⟩⟩
    · exact ⟨[], OwR.nil _ _ _, .inl k1⟩
    · exact ⟨[], OwR.nil _ _ _, .inr (.inl ⟨k2, k3⟩)⟩
    · exact ⟨[], OwR.nil _ _ _, .inr (.inr (.inl ⟨k2, k3, k4⟩))⟩
    · exact ⟨_, h, .inr (.inr (.inr ⟨k2, k3, m, k4, .inl ⟨k5, k6, k7, rfl⟩⟩))⟩
    · exact ⟨_, h, .inr (.inr (.inr ⟨k2, k3, m, k4, .inr ⟨k5, k6⟩⟩))⟩
  obtain ⟨xs, hrow, hxs⟩ := hrow
  have HXs0 : Hid (rsG cd (IntKind.u64.wrap ((xs.length : Nat) : Int)) (IntKind.u64.wrap nx) = (stR (abE S) 44 a b c).1) := hid (rd44 Hc0.out Hoo.out HNb_.out HNc_.out hxs rfl rfl)
  clear hxs
  obtain ⟨ax, qx, rfl⟩ := hrow.shape
  clear hrow HA6 HAp H3
  generalize xs.length = nn at *
  go_wp2_with fail
  refine ⟨⟨H6.out.px.op, H6.out.ob⟩, ?_⟩
  go_wp2_with fail
  refine ⟨⟨H6.out.px.op, H6.out.ob⟩, ?_⟩
  apply Exists.intro
  refine ⟨?_, ?_⟩
  · intro W hW
    clear hW
    repeat (go_big_quiet_step (fail))
    exact rfl
  simp only [wpHv]
  simp only [QN]
  as_aux_lemma =>
  obtain ⟨v2, hv2⟩ : ∃ v : Int, IntKind.u64.wrap (nn : Int) = v := ⟨_, rfl⟩
  obtain ⟨n2, hn2⟩ : ∃ v : Int, IntKind.u64.wrap nx = v := ⟨_, rfl⟩
  have HXs : Hid (rsG cd v2 n2 = (stR (abE S) 44 a b c).1) := hid (by rw [← hv2, ← hn2]; exact HXs0.out)
  have H7 := hid H6.out.px
  clear H6
  obtain ⟨c0, c1, c2, c3⟩ := H7.out.cells
  have HC := hid (H7.out.bel (giveZ v2 n2 cd w6))
  go_wp2_with fail
  refine HC.out.mono ?_
  rintro e w9 ⟨rfl, H8⟩
  clear HC H7 c0 c1 c2 c3
  obtain ⟨c0, c1, c2, c3⟩ := H8.out.cells
  clear c0 c1 c2 c3
  go_wp2_with (refine wpList_store_blk rfl 46 _ _ rfl r rfl (rsG cd v2 n2) rfl H8.out.rb (by first | rfl | (rw [rsG_len]; rfl)) (by first | exact I0.out | (rw [rsG_len]; exact I0.out)) (rsG_one _ _ _) ?_; intro w9 HB9 HU9)
  refine bodyPost_ret (results_blk (cs := rsG cd v2 n2) Tryz.results86 rfl (by first | exact agg_rs | (rw [rsG_len]; exact agg_rs)) HB9.out) rfl ?_
  exact PyE.mk rfl (HXs.out) (H8.out.done HU9.out)
end
end Go.Proofs.Qxb6500887aGreat
