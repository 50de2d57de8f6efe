/- RefusalsAndReadsChangeNothing: the walk. -/
import Derived.Test.Qxb6500887aGreatAzRa
import Derived.Test.Qxb6500887aGreatTree
import Derived.Deep.DeepCutAuto
namespace Go.Proofs.Qxb6500887aGreat
open Go.RowKit
set_option linter.unusedSimpArgs false
set_option linter.unusedVariables false
set_option maxRecDepth 1000000 in
set_option maxHeartbeats 8000000 in
theorem refuLaw_walk (a : Option Addr) (n c : Nat) (l : List AOp) (w : World) (hs : Script w a n c l) :
    Calls Tryz.prog 4 #[.slice a n c] w fun e w' => e = .returned (.bool true) ∧ Below w.heap.size w w' := by
  have hn := hs.1.2.2.1.1
  have HS := hid hs
  clear hs
  by_cases hsm : n ≤ 65536
  rotate_left
  · have hd : decide (n ≤ 65536) = false := decide_eq_false hsm
    go_enter Tryz.func4, Tryz.ntmps4
    go_wp2_with (go_at_call 10; refine (small_walk a n c hn _).mono ?_; rintro e w' ⟨rfl, rfl⟩)
    go_ret
    exact ⟨rfl, Below.refl _ _⟩
  have hd : decide (n ≤ 65536) = true := decide_eq_true hsm
  have I0 := hid info_rs
  go_enter Tryz.func4, Tryz.ntmps4
  go_wp2_with (go_at_call 10; refine (small_walk a n c hn _).mono ?_; rintro e w' ⟨rfl, rfl⟩)
  refine (LN.start _).arena.mono ?_
  rintro e w1 ⟨l1, rfl, H1⟩
  have HC := hid H1.out.arena
  go_wp2_with fail
  refine HC.out.mono ?_
  rintro e w2 ⟨l2, rfl, H2⟩
  clear HC H1
  have H0 : Hid (∃ S, LN w' [(l1, S), (l2, S)] [] w2) := hid ⟨S0, H2.out⟩
  clear H2
  go_wp2_with fail
  go_loopw [16] (fun u wr => ∃ (k : Nat), u = .int .i64 (k : Int) ∧ k ≤ n ∧ Hid (∃ S, LN w' [(l1, S), (l2, S)] [] wr)) (fun u _ => n - (intOf u).toNat)
  case atStart => exact ⟨0, rfl, Nat.zero_le _, H0⟩
  case round =>
  clear H0
  obtain ⟨k, rfl, hk, HK⟩ := hrel
  obtain ⟨S, hsv⟩ := HK.out
  have HV := hid hsv
  clear hsv HK
  by_cases hlt : k < n
  rotate_left
  · as_aux_lemma =>
    have hkn : k = n := by omega
    subst hkn
    have HC := hid (equalZ (HV.out.ls (l1, S) (by simp)).am (HV.out.ls (l2, S) (by simp)).am)
    have HF := hid HV.out.bel
    clear HV
    go_wp2_with fail
    refine HC.out.mono ?_
    rintro e w3 ⟨r, rfl, HE⟩
    have hr : r = true := HE.out.1.2 (Sm.refl S)
    subst hr
    go_wp2
    go_ret
    exact ⟨rfl, HF.out.trans (HE.out.2.mono HF.out.size)⟩
  obtain ⟨o, ho, hok, b, off, rfl, hb, c0, c1, c2, c3⟩ := (HS.out.below HV.out.bel).at hlt
  obtain ⟨kind, oa, ob, oc⟩ := o
  obtain ⟨k0, k1, ha, hb', hc'⟩ := hok
  dsimp only at c0 c1 c2 c3 ha hb' hc' k0 k1
  have HA := hid ha
  have HBo := hid hb'
  have HCo := hid hc'
  have HK0 := hid k0
  clear ho ha hb' hc' k0 k1
  obtain ⟨p, hp⟩ : ∃ p, wr.heap.size = p := ⟨_, rfl⟩
  have H1 : Hid (LN w' [(l1, S), (l2, S)] [(p, 31, [.int .u8 kind, .int .u64 oa, .int .u64 ob, .int .u64 oc])] (wr.alloc (.cells #[.int .u8 kind, .int .u64 oa, .int .u64 ob, .int .u64 oc] 31))) := hid (HV.out.new hp (by decide))
  go_upto_region 7 with fail
  (try simp only [hp])
  generalize hwa : World.alloc wr _ = wa at H1 ⊢
  clear hwa c0 c1 c2 c3 hp HV hb
  have HC := hid (versionZ (H1.out.ls (l1, S) (by simp)).am)
  go_wp2_with fail
  refine HC.out.mono ?_
  rintro e_ w_ ⟨rfl, hw_⟩
  have hs_ := hw_.symm
  clear hw_ HC
  subst hs_
  have c0 : wa.cell? ⟨p, 0, none⟩ = some (.int .u8 kind) := (H1.out.bk _ (List.mem_singleton.2 rfl)).cell 0
  have c1 : wa.cell? ⟨p, 1, none⟩ = some (.int .u64 oa) := (H1.out.bk _ (List.mem_singleton.2 rfl)).cell 1
  have c2 : wa.cell? ⟨p, 2, none⟩ = some (.int .u64 ob) := (H1.out.bk _ (List.mem_singleton.2 rfl)).cell 2
  have c3 : wa.cell? ⟨p, 3, none⟩ = some (.int .u64 oc) := (H1.out.bk _ (List.mem_singleton.2 rfl)).cell 3
  have HC := hid ((H1.out.ls (l1, S) (by simp)).play kind oa ob oc HK0.out HA.out HBo.out HCo.out)
  go_wp2_with fail
  refine HC.out.mono ?_
  rintro e w2 ⟨rs, S1, rfl, HR⟩
  have H2 : Hid (LN w' [(l1, S1), (l2, S)] [(p, 31, [.int .u8 kind, .int .u64 oa, .int .u64 ob, .int .u64 oc])] w2) := hid (H1.out.step (xs := []) HR.out.2.1)
  have HT := hid (HR.out.2.2.two (H1.out.ls (l1, S) (by simp)).am.vl)
  have HRO := hid HR.out.1
  clear HC H1 HR c0 c1 c2 c3
  obtain ⟨q, hq⟩ : ∃ q, w2.heap.size = q := ⟨_, rfl⟩
  have H3 : Hid (LN w' [(l1, S1), (l2, S)] ([(p, 31, [.int .u8 kind, .int .u64 oa, .int .u64 ob, .int .u64 oc])] ++ [(q, 46, rsC 0 0 0)]) (w2.alloc (.cells (rsC 0 0 0).toArray 46))) := hid (H2.out.new hq (by decide))
  have hpq : Hid (p < q ∧ w'.heap.size ≤ q) := hid ⟨by rw [← hq]; exact (H2.out.bk _ (List.mem_singleton.2 rfl)).lt, by rw [← hq]; exact H2.out.bel.size⟩
  go_wp2_with (refine wpList_store_blk rfl 46 _ _ rfl q (by first | rfl | (simp [hq]; done)) rs rfl (H3.out.bk (q, 46, rsC 0 0 0) (by simp)) (by rw [HRO.out.len]; rfl) (by rw [HRO.out.len]; exact I0.out) HRO.out.one ?_; intro w9 HB9 HU9)
  have H4 : Hid (LN w' [(l1, S1), (l2, S)] [(p, 31, [.int .u8 kind, .int .u64 oa, .int .u64 ob, .int .u64 oc]), (q, 46, rs)] w9) := hid (H3.out.put (b1 := [_]) (b2 := []) HU9.out HB9.out hpq.out.2 (fun x hx => by
    rw [List.append_nil] at hx
    rw [List.mem_singleton.1 hx]
    exact Nat.ne_of_lt hpq.out.1))
  clear H3 HB9 HU9 H2 hq
  have HC := hid (versionZ (H4.out.ls (l1, S1) (by simp)).am)
  refine HC.out.mono ?_
  rintro e_ w_ ⟨rfl, hw_⟩
  have hs_ := hw_.symm
  clear hw_ HC
  subst hs_
  rcases HT.out with hSS | ⟨hvv, v, hrs, hdet⟩
  · subst hSS
    have HC := hid (equalZ (H4.out.ls (l1, S1) (by simp)).am (H4.out.ls (l2, S1) (by simp)).am)
    clear HT
    go_wp2_with fail
    refine HC.out.mono ?_
    rintro e w3 ⟨r, rfl, HE⟩
    have hr : r = true := HE.out.1.2 (Sm.refl S1)
    subst hr
    have HF : Hid (∃ S, LN w' [(l1, S), (l2, S)] [] w3) := hid ⟨S1, (H4.out.below HE.out.2).drop (fun x hx => by cases hx)⟩
    clear HC HE H4
    go_wp2
    exact ⟨⟨k + 1, by go_num, by omega, HF⟩, by simp [intOf]; omega⟩
  have d0 : (((S1.v : Nat) : Int) != ((S.v : Nat) : Int)) = true := by simp; omega
  have Hdet := hid hdet
  clear hvv hdet HT
  subst hrs
  generalize ((S1.v : Nat) : Int) = v1 at d0 ⊢
  generalize ((S.v : Nat) : Int) = v0 at d0 ⊢
  go_upto_region 10 with fail
  have HH4 : Hid (∃ S2, LN w' [(l1, S1), (l2, S2)] [(p, 31, [.int .u8 kind, .int .u64 oa, .int .u64 ob, .int .u64 oc]), (q, 46, rsC 0 v 0)] w9) := hid ⟨S, H4.out⟩
  refine wp_region_tree (fun wz => ∃ S2, LN w' [(l1, S1), (l2, S2)] [(p, 31, [.int .u8 kind, .int .u64 oa, .int .u64 ob, .int .u64 oc]), (q, 46, rsC 0 v 0)] wz) 10 [0, 1, 2, 3, 4, 5, 7] (.one 6 (.one 8 (.one 9 .leaf))) rfl (by kernel_rfl) (by kernel_rfl) (fun d _ _ _ _ h => by cases d <;> exact h) (let ⟨S2, h2⟩ := HH4.out; ⟨S2, h2.below (Drew.below ⟨1, rfl⟩ _)⟩) ?_
  apply Exists.intro
  refine ⟨?_, ?_⟩
  · intro W hW
    have c0 : ∀ u, (W u).cell? ⟨p, 0, none⟩ = some (.int .u8 kind) := fun u => let ⟨S2, h2⟩ := hW u; (h2.bk (p, 31, [.int .u8 kind, .int .u64 oa, .int .u64 ob, .int .u64 oc]) (by simp)).cell 0
    have c1 : ∀ u, (W u).cell? ⟨p, 1, none⟩ = some (.int .u64 oa) := fun u => let ⟨S2, h2⟩ := hW u; (h2.bk (p, 31, [.int .u8 kind, .int .u64 oa, .int .u64 ob, .int .u64 oc]) (by simp)).cell 1
    have c2 : ∀ u, (W u).cell? ⟨p, 2, none⟩ = some (.int .u64 ob) := fun u => let ⟨S2, h2⟩ := hW u; (h2.bk (p, 31, [.int .u8 kind, .int .u64 oa, .int .u64 ob, .int .u64 oc]) (by simp)).cell 2
    have c3 : ∀ u, (W u).cell? ⟨p, 3, none⟩ = some (.int .u64 oc) := fun u => let ⟨S2, h2⟩ := hW u; (h2.bk (p, 31, [.int .u8 kind, .int .u64 oa, .int .u64 ob, .int .u64 oc]) (by simp)).cell 3
    have r0 : ∀ u, (W u).cell? ⟨q, 0, none⟩ = some (.int .u8 0) := fun u => let ⟨S2, h2⟩ := hW u; (h2.bk (q, 46, rsC 0 v 0) (by simp)).cell 0
    have rl : ∀ u, (Instr.loadAt 46 (.pointer (some ⟨q, 0, none⟩))).run Tryz.prog (W u) = .ok (.agg (rsC 0 v 0).toArray) (W u) := fun u => let ⟨S2, h2⟩ := hW u; load_rs (h2.bk (q, 46, rsC 0 v 0) (by simp)) rfl
    have Hrl := hid rl
    clear hW rl
    simp only [List.take, opsAt, List.drop, List.cons_append, List.nil_append]
    repeat (first | (go_big_quiet_want; refine quiet_loadO 46 _ rfl ⟨q, 0, none⟩ rfl _ (fun w hx => by obtain ⟨x, rfl⟩ := hx; exact Hrl.out x) ?_; simp only [Act.put, List.setIfInBounds_toArray, List.set_cons_succ, List.set_cons_zero]; go_big_quiet_on) | go_big_quiet_step (fail))
    exact rfl
  simp only [List.take, List.drop, opsAt, List.cons_append, List.nil_append, wpTr]
  have H5 : Hid (LN w' [(l1, S1), (l2, S)] [(p, 31, [.int .u8 kind, .int .u64 oa, .int .u64 ob, .int .u64 oc]), (q, 46, rsC 0 v 0)] w9.drew) := hid (H4.out.below (Drew.below ⟨1, rfl⟩ _))
  generalize w9.drew = wd at H5 ⊢
  clear H4 HH4
  have HC := hid ((H5.out.ls (l2, S) (by simp)).play kind oa ob oc HK0.out HA.out HBo.out HCo.out)
  go_wp2_with fail
  refine HC.out.mono ?_
  rintro e w3 ⟨rs2, S2, rfl, HR⟩
  obtain ⟨hr2, hs2⟩ := Hdet.out _ _ HR.out.2.2
  subst hr2 hs2
  have H6 : Hid (LN w' [(l1, S2), (l2, S2)] [(p, 31, [.int .u8 kind, .int .u64 oa, .int .u64 ob, .int .u64 oc]), (q, 46, rsC 0 v 0)] w3) := hid (H5.out.step (xs := [_]) HR.out.2.1)
  clear HC HR H5 Hdet
  have hne := fun wz => neq_rs 0 v 0 wz
  generalize (rsC 0 v 0).toArray = ra at hne ⊢
  go_wp2_with fail
  refine ⟨⟨S2, H6.out⟩, ?_⟩
  simp only [wpTr, opsAt, List.take, List.drop, List.cons_append, List.nil_append]
  go_wp2_with fail
  refine ⟨⟨S2, H6.out⟩, ?_⟩
  simp only [wpTr, opsAt, List.take, List.drop, List.cons_append, List.nil_append]
  go_wp2_with fail
  refine ⟨⟨S2, H6.out⟩, ?_⟩
  simp only [wpTr, QN]
  have HF : Hid (∃ S, LN w' [(l1, S), (l2, S)] [] w3) := hid ⟨S2, H6.out.drop (fun x hx => by cases hx)⟩
  clear H6 hne
  go_wp2
  exact ⟨⟨k + 1, by go_num, by omega, HF⟩, by simp [intOf]; omega⟩
end Go.Proofs.Qxb6500887aGreat
