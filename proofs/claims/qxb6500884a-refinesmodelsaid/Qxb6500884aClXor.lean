/- Xor. -/
import Derived.Test.Qxb6500884aClDifW
import Derived.Test.Qxb6500884aClMch
namespace Go.Proofs.Qxb6500884a
open Go.RowKit
set_option linter.unusedSimpArgs false
set_option linter.unusedVariables false

set_option maxRecDepth 100000 in
set_option maxHeartbeats 2000000 in
theorem xor_walk (a1 : Option Addr) (n1 c1 : Nat) (l1 : List (Int × Int)) (a2 : Option Addr) (n2 c2 : Nat) (l2 : List (Int × Int)) (w : World) (hr1 : IvRow w a1 n1 c1 l1) (hr2 : IvRow w a2 n2 c2 l2) (hN1 : Nrm l1) (hN2 : Nrm l2) (ht1 : Ty67 w a1 n1) (ht2 : Ty67 w a2 n2) :
    Calls Try.prog 48 #[.agg #[.slice a1 n1 c1], .agg #[.slice a2 n2 c2]] w fun e w' => CP (fun x => memB l1 x != memB l2 x) w e w' := by
  have HR1 := hid hr1
  have HR2 := hid hr2
  have HY1 := hid ht1
  have HY2 := hid ht2
  obtain ⟨q, hq⟩ : ∃ q, w.heap.size = q := ⟨_, rfl⟩
  have HO0 := hid (Ow.two w (.slice a1 n1 c1) (.slice a2 n2 c2) hq)
  obtain ⟨q2, hq2⟩ : ∃ q2, q + 1 = q2 := ⟨_, rfl⟩
  rw [hq2] at HO0
  obtain ⟨r, hr⟩ : ∃ r, q2 + 1 = r := ⟨_, rfl⟩
  rw [hr] at HO0
  obtain ⟨K, hK⟩ : ∃ K, [(q, [Value.slice a1 n1 c1]), (q2, [.slice a2 n2 c2]), (r, [.slice none 0 0])] = K := ⟨_, rfl⟩
  rw [hK] at HO0
  have Hk1 : Hid ((q, [Value.slice a1 n1 c1]) ∈ K) := hid (by rw [← hK]; simp)
  have Hk2 : Hid ((q2, [Value.slice a2 n2 c2]) ∈ K) := hid (by rw [← hK]; simp)
  have Hk3 : Hid ((r, [Value.slice none 0 0]) ∈ K) := hid (by rw [← hK]; simp)
  have hqr : w.heap.size ≤ r := by omega
  clear hK hr1 hr2 ht1 ht2
  go_enter Try.func48, Try.ntmps48
  go_upto_region 1 with fail
  generalize ((w.alloc (.cells #[Value.slice a1 n1 c1] 30)).alloc (.cells #[Value.slice a2 n2 c2] 30)).alloc (.cells #[Value.slice none 0 0] 30) = w1 at HO0 ⊢
  clear hq2 hr
  have HO1 : Hid (Ow w K (.slice none 0 0) [] w1.drew) := hid (HO0.out.below (Drew.below ⟨1, rfl⟩ _))
  have HS : Hid (∀ (w' : World), Ow w K (.slice none 0 0) [] w' → w'.cell? ⟨q, 0, none⟩ = some (.slice a1 n1 c1) ∧ w'.cell? ⟨q2, 0, none⟩ = some (.slice a2 n2 c2)) := hid (fun w' h => ⟨(h.keep _ Hk1.out).cell 0, (h.keep _ Hk2.out).cell 0⟩)
  have HD1 : Hid (∀ (w' : World), Ow w K (.slice none 0 0) [] w' → Calls Try.prog 47 #[.agg #[.slice a1 n1 c1], .agg #[.slice a2 n2 c2]] w' fun e w'' => CP (fun x => memB l1 x && !memB l2 x) w' e w'') := hid (fun w' h => diff_walk a1 n1 c1 l1 a2 n2 c2 l2 w' (HR1.out.below h.bel) (HR2.out.below h.bel) hN1 hN2 (HY1.out.below h.bel))
  have HD2 : Hid (∀ (w' : World), Ow w K (.slice none 0 0) [] w' → Calls Try.prog 47 #[.agg #[.slice a2 n2 c2], .agg #[.slice a1 n1 c1]] w' fun e w'' => CP (fun x => memB l2 x && !memB l1 x) w' e w'') := hid (fun w' h => diff_walk a2 n2 c2 l2 a1 n1 c1 l1 w' (HR2.out.below h.bel) (HR1.out.below h.bel) hN2 hN1 (HY2.out.below h.bel))
  clear HO0 HR1 HR2 HY1 HY2
  refine wp_region_heavy (fun w' => w'.cell? ⟨q, 0, none⟩ = some (.slice a1 n1 c1) ∧ w'.cell? ⟨q2, 0, none⟩ = some (.slice a2 n2 c2)) 7 [0, 1, 3, 4] [2, 5, 6] rfl (by kernel_rfl) (by kernel_rfl) (fun d _ _ _ _ h => by cases d <;> exact h) (HS.out _ HO1.out) ?_
  apply Exists.intro
  refine ⟨?_, ?_⟩
  · intro W hW
    have d0 : ∀ x, (W x).cell? ⟨q, 0, none⟩ = some (.slice a1 n1 c1) := fun x => (hW x).1
    have d1 : ∀ x, (W x).cell? ⟨q2, 0, none⟩ = some (.slice a2 n2 c2) := fun x => (hW x).2
    clear hW
    simp only [List.take, opsAt, List.drop, List.cons_append, List.nil_append]
    repeat (go_big_quiet_step (fail))
    exact rfl
  · simp only [List.take, List.drop, opsAt, List.cons_append, List.nil_append, wpHv]
    generalize w1.drew = w2 at HO1 ⊢
    go_wp2_with fail
    refine (HD1.out _ HO1.out).mono ?_
    rintro e w3 ⟨⟨x1, y1, z1, m1, rfl, hrow1, hn1, hm1, hty1⟩, hb1⟩
    have HO3 := hid (HO1.out.below hb1)
    have HRw1 := hid hrow1
    have HTy1 := hid hty1
    have Hm1 := hid hm1
    clear hrow1 hty1 hm1 hb1
    go_wp2_with fail
    refine ⟨HS.out _ HO3.out, ?_⟩
    go_wp2_with fail
    refine (HD2.out _ HO3.out).mono ?_
    rintro e w4 ⟨⟨x2, y2, z2, m2, rfl, hrow2, hn2, hm2, hty2⟩, hb2⟩
    have HO4 := hid (HO3.out.below hb2)
    have HU := hid (union_walk x1 y1 z1 m1 x2 y2 z2 m2 w4 (HRw1.out.below hb2) hrow2 hn1 hn2 (HTy1.out.below hb2) hty2)
    have Hm2 := hid hm2
    clear hrow2 hty2 hm2 hb2
    go_wp2_with fail
    refine ⟨HS.out _ HO4.out, ?_⟩
    go_wp2_with fail
    refine HU.out.mono ?_
    rintro e w5 ⟨⟨x5, y5, z5, m5, rfl, hrow5, hn5, hm5, hty5⟩, hb5⟩
    have HO5 := hid (HO4.out.below hb5)
    have HRw5 := hid hrow5
    have HTy5 := hid hty5
    have Hm5 := hid hm5
    clear hrow5 hty5 hm5 hb5
    go_wp2_with fail
    refine ⟨HS.out _ HO5.out, ?_⟩
    simp only [QN]
    have I0 : Hid ((Try.prog.info? 30).map (·.size) = some [Value.slice x5 y5 z5].length) := hid info_reg
    have HK5 := hid (HO5.out.keep _ Hk3.out)
    go_wp2_with (refine wpList_store_blk rfl 30 _ _ rfl r rfl [.slice x5 y5 z5] rfl HK5.out rfl I0.out (fun v hv => by simp at hv; subst hv; rfl) ?_; intro w9 HB9 HU9)
    exact bodyPost_ret (results_blk Try.results48 rfl (show AggOf Try.prog 30 (List.length [_]) from AggOf.struct Try.underlying30 info_reg) HB9.out) rfl
      ⟨⟨_, _, _, m5, rfl, HRw5.out.upd HU9.out (HTy5.out.ne HK5.out (by decide)), hn5, fun x h0 h1 => (by rw [Hm5.out x h0 h1, Hm1.out x h0 h1, Hm2.out x h0 h1]; cases memB l1 x <;> cases memB l2 x <;> rfl), HTy5.out.upd HK5.out (by decide) HU9.out⟩, HO5.out.bel.trans (HU9.out.below hqr HO5.out.bel.size)⟩
end Go.Proofs.Qxb6500884a
