/- Steps of playObjects (written by tools/mk_azzd.py). -/
import Derived.Test.Qxb6500887aGreatAzZd
namespace Go.Proofs.Qxb6500887aGreat
open Go.RowKit
set_option linter.unusedSimpArgs false
set_option linter.unusedVariables false
section
variable {l : AL} {S S' : AS} {w w' w0 : World}
set_option maxRecDepth 100000 in
set_option maxHeartbeats 8000000 in
theorem pl46 (h : AM l S w) (a b c : Int) (ha : U64 a) (hb : U64 b) (hc : U64 c) : Calls Tryz.prog 86 #[.pointer (some ⟨l.a, 0, none⟩), .agg #[.int .u8 46, .int .u64 a, .int .u64 b, .int .u64 c]] w (PyP l S w 46 a b c) := by
  have I0 := hid info_rs
  obtain ⟨p, hp⟩ : ∃ p, w.heap.size = p := ⟨_, rfl⟩
  obtain ⟨r, hr⟩ : ∃ r, p + 1 = r := ⟨_, rfl⟩
  have H0 : Hid (PX l S w p r [.int .u8 46, .int .u64 a, .int .u64 b, .int .u64 c] ((w.alloc (.cells #[.int .u8 46, .int .u64 a, .int .u64 b, .int .u64 c] 31)).alloc (.cells #[.int .u8 0, .int .u64 0, .int .u64 0, .string { data := #[] }, .int .i64 0, .int .i64 0, .int .i64 0, .int .i64 0, .int .i64 0, .int .i64 0, .int .i64 0, .int .i64 0, .int .i64 0, .int .i64 0, .int .i64 0, .int .i64 0, .int .i64 0, .int .i64 0, .int .i64 0, .int .i64 0, .int .u8 0, .int .i64 0, .int .i64 0, .int .i64 0, .int .i64 0, .int .i64 0, .int .i64 0, .int .i64 0, .int .i64 0, .int .i64 0, .int .i64 0, .int .i64 0, .int .i64 0, .int .i64 0, .int .i64 0] 46))) := hid (PX.start h hp hr)
  have HK := hid (fun wz (hz : AM l S wz) => ownerOfZ hz a)
  clear h
  go_enter Tryz.func86, Tryz.ntmps86
  go_upto_region 1 with fail
  (try simp only [World.size_alloc, hp, hr])
  generalize hw1 : World.alloc (w.alloc _) _ = w1 at H0 ⊢
  clear hw1 hp hr
  obtain ⟨c0, c1, c2, c3⟩ := H0.out.cells
  have I1 := hid info_ob
  have HC := hid (HK.out w1 H0.out.am)
  go_wp2_with fail
  refine HC.out.mono ?_
  rintro e w2 ⟨rs, cd, rfl, hb_⟩
  have H1 := hid (H0.out.below hb_.out.2)
  have hop := hb_.out.1
  clear hb_ HC H0 c0 c1 c2 c3 HK
  have Hrs : Hid (rs.length = 5 ∧ (∀ u ∈ rs, u.oneCell' = true) ∧ (cd = 0 → ∃ o, ObOk o ∧ rs = obL l o) ∧ (¬ InH a → cd = 1)) := hid (by
    rcases hop with ⟨h1, h2, h3⟩ | ⟨h0, r, _, h⟩
    · subst h3; exact ⟨rfl, ob0_one, fun h => by omega, fun _ => h2⟩
    · rcases h with ⟨_, h2, h3⟩ | ⟨g, _, _, h⟩
      · subst h3; exact ⟨rfl, ob0_one, fun h => by omega, fun hn => absurd h0 hn⟩
      · rcases h with ⟨h1, h2, h3⟩ | ⟨_, _, h2, h3⟩ | ⟨_, _, h2, h4, h3⟩
        · subst h3; exact ⟨rfl, ob0_one, fun h => absurd (h2.symm.trans h) h1, fun hn => absurd h0 hn⟩
        · subst h3; exact ⟨rfl, ob0_one, fun h => by omega, fun hn => absurd h0 hn⟩
        · subst h3; exact ⟨rfl, obL_one _ _, fun _ => ⟨_, h4, rfl⟩, fun hn => absurd h0 hn⟩)
  clear hop
  obtain ⟨q, hq⟩ : ∃ q, w2.heap.size = q := ⟨_, rfl⟩
  have HN : Hid (PX l S w p r [.int .u8 46, .int .u64 a, .int .u64 b, .int .u64 c] (w2.alloc (.cells #[.pointer none, .int .i64 0, .int .u64 0, .int .i64 0, .int .i64 0] 61)) ∧ Blk (w2.alloc (.cells #[.pointer none, .int .i64 0, .int .u64 0, .int .i64 0, .int .i64 0] 61)) q 61 ob0 ∧ w.heap.size ≤ q) := hid (by
    have kk := Blk.new w2 ob0 61
    rw [hq] at kk
    have := H1.out.au.u.size
    exact ⟨H1.out.below (nbel _ _), kk, by omega⟩)
  (try simp only [hq])
  go_upto_region 24 with (refine wpList_store_blk rfl 61 _ _ rfl q rfl rs rfl HN.out.2.1 (by rw [Hrs.out.1]; rfl) (by rw [Hrs.out.1]; exact I1.out) Hrs.out.2.1 ?_; intro w4 HB4 HU4)
  have H2 : Hid (PO l S w p r [.int .u8 46, .int .u64 a, .int .u64 b, .int .u64 c] q rs w4) := hid ⟨HN.out.1.oth HN.out.2.2 HN.out.2.1 (by decide) (by decide) HU4.out, HB4.out⟩
  clear HB4 HU4 HN hq H1
  by_cases hc0 : cd = 0
  rotate_left
  · as_aux_lemma =>
    have dc : (cd == 0) = false := by simpa using hc0
    have dc2 : (cd != 0) = true := by simp [bne, dc]
    have HRd : Hid (¬ InH a → cd = 1) := hid Hrs.out.2.2.2
    clear hc0 Hrs
    have H3 := hid H2.out.px
    obtain ⟨c0, c1, c2, c3⟩ := H3.out.cells
    have HC := hid (H3.out.bel (refuse_walk cd w4))
    go_wp2_with fail
    refine HC.out.mono ?_
    rintro e w5 ⟨rfl, H4⟩
    clear HC H3 c0 c1 c2 c3
    obtain ⟨c0, c1, c2, c3⟩ := H4.out.cells
    clear c0 c1 c2 c3
    go_wp2_with (refine wpList_store_blk rfl 46 _ _ rfl r rfl (rsC cd 0 0) rfl H4.out.rb (by first | rfl | (rw [show (rsC cd 0 0).length = 35 from rfl]; rfl)) (by first | exact I0.out | (rw [show (rsC cd 0 0).length = 35 from rfl]; exact I0.out)) (rsC_one _ _ _) ?_; intro w9 HB9 HU9)
    refine bodyPost_ret (results_blk (cs := rsC cd 0 0) Tryz.results86 rfl (by first | exact agg_rs | (rw [show (rsC cd 0 0).length = 35 from rfl]; exact agg_rs)) HB9.out) rfl ?_
    exact PyP.mk rfl (RsOk.c _ _ _) (H4.out.done HU9.out) (PlR.rd rfl (Rd.word (fun h => by rw [HRd.out h]) (by decide)))
  as_aux_lemma =>
  subst hc0
  obtain ⟨o, hob, rfl⟩ := Hrs.out.2.2.1 rfl
  have HRd : Hid (¬ InH a → False) := hid (fun hi => by have := Hrs.out.2.2.2 hi; omega)
  clear Hrs
  have q0 := H2.out.ob.cell 0
  have q1 := H2.out.ob.cell 1
  have q2 := H2.out.ob.cell 2
  have q3 := H2.out.ob.cell 3
  have q4 := H2.out.ob.cell 4
  simp only [obL, List.getElem?_cons_zero, List.getElem?_cons_succ] at q0 q1 q2 q3 q4
  have HA := hid (obAddrZ (l := l) hob w4)
  go_wp2_with fail
  refine HA.out.mono ?_
  rintro e w5 ⟨rfl, hb5⟩
  have H5 := hid (H2.out.px.below hb5)
  clear hb5 HA H2 q0 q1 q2 q3 q4
  obtain ⟨c0, c1, c2, c3⟩ := H5.out.cells
  clear c0 c1 c2 c3
  go_wp2_with (refine wpList_store_blk rfl 46 _ _ rfl r rfl (rsC 0 (65536 + (o.k : Int)) 0) rfl H5.out.rb (by first | rfl | (rw [show (rsC 0 (65536 + (o.k : Int)) 0).length = 35 from rfl]; rfl)) (by first | exact I0.out | (rw [show (rsC 0 (65536 + (o.k : Int)) 0).length = 35 from rfl]; exact I0.out)) (rsC_one _ _ _) ?_; intro w9 HB9 HU9)
  refine bodyPost_ret (results_blk (cs := rsC 0 (65536 + (o.k : Int)) 0) Tryz.results86 rfl (by first | exact agg_rs | (rw [show (rsC 0 (65536 + (o.k : Int)) 0).length = 35 from rfl]; exact agg_rs)) HB9.out) rfl ?_
  exact PyP.mk rfl (RsOk.c _ _ _) (H5.out.done HU9.out) (PlR.rd rfl (Rd.word (fun h => (HRd.out h).elim) (by decide)))
end
end Go.Proofs.Qxb6500887aGreat
