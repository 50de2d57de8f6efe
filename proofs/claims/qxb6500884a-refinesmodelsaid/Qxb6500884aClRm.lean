/- RefinesModel: the law. -/
import Derived.Test.Qxb6500884aClRmL
import Derived.Test.Qxb6500884aClTot
namespace Go.Proofs.Qxb6500884a
open Go.RowKit
set_option linter.unusedSimpArgs false
set_option linter.unusedVariables false

set_option maxRecDepth 100000 in
set_option maxHeartbeats 4000000 in
theorem refLaw_walk (a : Option Addr) (n c : Nat) (l : List COp) (w : World) (hs : Script w a n c l) :
    Calls Try.prog 6 #[.slice a n c] w fun e w' => e = .returned (.bool true) ∧ Below w.heap.size w w' := by
  have HS := hid hs
  have hl := hs.1.1
  clear hs
  go_enter Try.func6, Try.ntmps6
  go_wp2_with fail
  refine (small_walk a n c l _ HS.out).mono ?_
  rintro e w' ⟨r, rfl, rfl, hr⟩
  cases r with
  | false =>
    go_wp2
    go_ret
    exact ⟨rfl, Below.refl _ _⟩
  | true =>
  obtain ⟨hsm, hob⟩ := hr rfl
  have HOb := hid hob
  clear hr hob
  obtain ⟨mb, hmb⟩ : ∃ mb, w'.heap.size = mb := ⟨_, rfl⟩
  obtain ⟨mm, hmm⟩ : ∃ mm, mb + 1 = mm := ⟨_, rfl⟩
  have HM0 := hid (RM.start w' hmb hmm)
  go_upto_region 5 with fail
  generalize (w'.alloc (.cells #[.slice none 0 0] 46)).alloc (.cells #[.slice none 0 0] 59) = w1 at HM0 ⊢
  clear hmb hmm
  go_loopw [21] (fun i wr => ∃ (k : Nat) (ma : Option Addr) (S : List (Nat × List (Int × Int))) (am : Option Addr) (G : List (Nat × (Nat → Bool))), k ≤ n ∧ i = .int .i64 k ∧ Hid (RM w' mb ma S mm am G wr)) (fun i _ => n - (intOf i).toNat)
  case atStart => exact ⟨0, none, [], none, [], Nat.zero_le _, rfl, HM0⟩
  case round =>
  clear HM0
  obtain ⟨k, ma, S, am, G, hk, rfl, HM⟩ := hrel
  by_cases hlt : k < n
  rotate_left
  · as_aux_lemma =>
    have dk : decide ((k : Int) < (n : Int)) = false := decide_eq_false (by omega)
    go_wp2
    go_ret
    exact ⟨rfl, HM.out.mw.bel⟩
  as_aux_lemma =>
  obtain ⟨o, ho, hok, b, off, rfl, hb, c0, c1, c2, c3, c4⟩ := (HS.out.below HM.out.mw.bel).at hlt
  have hob := HOb.out o (List.mem_of_getElem? ho)
  obtain ⟨kind, oa, ob, ia, inn, ic, iv, ra, rn, rc, rg⟩ := o
  dsimp only at c0 c1 c2 c3 c4 hob
  have HOk := hid (HS.out.2 _ (List.mem_of_getElem? ho))
  have dk : decide ((k : Int) < (n : Int)) = true := decide_eq_true (by omega)
  have i1 : (k : Int) < (n : Int) := by omega
  obtain ⟨pO, hpO⟩ : ∃ pO, wr.heap.size = pO := ⟨_, rfl⟩
  have HM2 : Hid (RM w' mb ma S mm am G (wr.alloc (.cells #[Value.int .i64 kind, .int .i64 oa, .int .i64 ob, .slice ia inn ic, .slice ra rn rc] 28)) ∧ Blk (wr.alloc (.cells #[Value.int .i64 kind, .int .i64 oa, .int .i64 ob, .slice ia inn ic, .slice ra rn rc] 28)) pO 28 [Value.int .i64 kind, .int .i64 oa, .int .i64 ob, .slice ia inn ic, .slice ra rn rc]) := hid ⟨HM.out.below (nbel wr _), by
    have := Blk.new wr [Value.int .i64 kind, .int .i64 oa, .int .i64 ob, .slice ia inn ic, .slice ra rn rc] 28
    rw [hpO] at this
    exact this⟩
  clear ho hok
  go_upto_region 7 with fail
  generalize wr.alloc (.cells #[Value.int .i64 kind, .int .i64 oa, .int .i64 ob, .slice ia inn ic, .slice ra rn rc] 28) = w2 at HM2 ⊢
  clear c0 c1 c2 c3 c4 HM dk hpO
  have o0 : w2.cell? ⟨pO, 0, none⟩ = some (.int .i64 kind) := HM2.out.2.cell 0
  have o1 : w2.cell? ⟨pO, 1, none⟩ = some (.int .i64 oa) := HM2.out.2.cell 1
  have o2 : w2.cell? ⟨pO, 2, none⟩ = some (.int .i64 ob) := HM2.out.2.cell 2
  have o3 : w2.cell? ⟨pO, 3, none⟩ = some (.slice ia inn ic) := HM2.out.2.cell 3
  have o4 : w2.cell? ⟨pO, 4, none⟩ = some (.slice ra rn rc) := HM2.out.2.cell 4
  have HSt := hid (step_walk mb ma S ⟨kind, oa, ob, ia, inn, ic, iv, ra, rn, rc, rg⟩ w2 HM2.out.1.mw.mach (HOk.out.below HM2.out.1.mw.bel) hob.1 hob.2)
  go_wp2_with fail
  refine HSt.out.mono ?_
  rintro e w3 hp
  obtain ⟨res, pa, pn, pc, ps, a', rfl, hms⟩ := HM2.out.1.mw.step hp
  obtain ⟨rok, rv, hres⟩ := hms.st.pushed
  have hpl : ps.length ≤ 196608 := hms.len
  rw [List.length_map] at hres
  obtain ⟨pl, hpl2⟩ : ∃ pl, ps.length = pl := ⟨_, rfl⟩
  rw [hpl2] at hres hpl
  subst hres
  have HSS := hid hms.st
  have HLow := hid (And.intro HM2.out.1.mlow (And.intro HM2.out.1.mab HM2.out.1.rel))
  have HM3 : Hid (MW w' mb a' (ps.foldl push12 S) w3 ∧ MMach mm am G w3 ∧ Blk w3 pO 28 [Value.int .i64 kind, .int .i64 oa, .int .i64 ob, .slice ia inn ic, .slice ra rn rc]) := hid ⟨hms.mw, HM2.out.1.real hms, HM2.out.1.mw.mach.blkT hms.upd HM2.out.2 (by decide) (by decide)⟩
  have HNr : Hid (∀ l ∈ S.map (·.2), Nrm l) := hid (fun l hl => by
    obtain ⟨p, hp, rfl⟩ := List.mem_map.1 hl
    exact (HM2.out.1.mw.mach.regs p hp).nrm)
  clear hp hms HSt HM2 o0 o1 o2 o3 o4 hpl2
  obtain ⟨p7, hp7⟩ : ∃ p7, w3.heap.size = p7 := ⟨_, rfl⟩
  have HM4 : Hid (MW w' mb a' (ps.foldl push12 S) (w3.alloc (.cells #[.int .i64 (pl : Int), .bool rok, .int .i64 rv] 51)) ∧ MMach mm am G (w3.alloc (.cells #[.int .i64 (pl : Int), .bool rok, .int .i64 rv] 51)) ∧ Blk (w3.alloc (.cells #[.int .i64 (pl : Int), .bool rok, .int .i64 rv] 51)) pO 28 [Value.int .i64 kind, .int .i64 oa, .int .i64 ob, .slice ia inn ic, .slice ra rn rc] ∧ Blk (w3.alloc (.cells #[.int .i64 (pl : Int), .bool rok, .int .i64 rv] 51)) p7 51 [.int .i64 (pl : Int), .bool rok, .int .i64 rv]) := hid ⟨HM3.out.1.below (nbel w3 _), HM3.out.2.1.below (nbel w3 _), HM3.out.2.2.below (nbel w3 _), by
    have := Blk.new w3 [.int .i64 (pl : Int), .bool rok, .int .i64 rv] 51
    rw [hp7] at this
    exact this⟩
  unfold resC
  go_upto_region 8 with fail
  generalize w3.alloc (.cells #[.int .i64 (pl : Int), .bool rok, .int .i64 rv] 51) = w4 at HM4 ⊢
  clear HM3 hp7
  have o0 : w4.cell? ⟨pO, 0, none⟩ = some (.int .i64 kind) := HM4.out.2.2.1.cell 0
  have o1 : w4.cell? ⟨pO, 1, none⟩ = some (.int .i64 oa) := HM4.out.2.2.1.cell 1
  have o2 : w4.cell? ⟨pO, 2, none⟩ = some (.int .i64 ob) := HM4.out.2.2.1.cell 2
  have o3 : w4.cell? ⟨pO, 3, none⟩ = some (.slice ia inn ic) := HM4.out.2.2.1.cell 3
  have o4 : w4.cell? ⟨pO, 4, none⟩ = some (.slice ra rn rc) := HM4.out.2.2.1.cell 4
  have HMs := hid (mstep_walk mm am G ⟨kind, oa, ob, ia, inn, ic, iv, ra, rn, rc, rg⟩ (S.map (·.2)) w4 HM4.out.2.1 (HOk.out.below HM4.out.1.bel) HLow.out.2.2 HNr.out hob.2)
  go_wp2_with fail
  refine HMs.out.mono ?_
  rintro e w5 hq
  obtain ⟨res', fs, am', rfl, hmm', hpost, hab'⟩ := hq.out
  obtain ⟨hre, hrel⟩ := hpost _ _ HSS.out
  subst hre
  have HM5 : Hid (RM w' mb a' (ps.foldl push12 S) mm am' (fs.foldl pushG G) w5 ∧ Blk w5 p7 51 [.int .i64 (pl : Int), .bool rok, .int .i64 rv]) := hid ⟨⟨HM4.out.2.1.keepMW HLow.out.1 HLow.out.2.1 HM4.out.1 hq.upd, hmm', Rel.fold fs ps G S hrel HLow.out.2.2, HLow.out.1, fun k hk => by
    rcases hab' with h1 | ⟨g, h1, h2⟩
    · exact HLow.out.2.1 k (by rw [← h1]; exact hk)
    · rw [h1] at hk
      cases hk
      have := HM4.out.1.bel.size
      omega⟩, HM4.out.2.1.blkT hq.upd HM4.out.2.2.2 (by decide) (by decide)⟩
  clear hq hmm' hpost hab' hrel HMs HM4 o0 o1 o2 o3 o4 HSS HLow HNr
  generalize ps.foldl push12 S = S' at HM5
  generalize fs.foldl pushG G = G' at HM5
  obtain ⟨p9, hp9⟩ : ∃ p9, w5.heap.size = p9 := ⟨_, rfl⟩
  have HM6 : Hid (RM w' mb a' S' mm am' G' (w5.alloc (.cells #[.int .i64 (pl : Int), .bool rok, .int .i64 rv] 51)) ∧ Blk (w5.alloc (.cells #[.int .i64 (pl : Int), .bool rok, .int .i64 rv] 51)) p7 51 [.int .i64 (pl : Int), .bool rok, .int .i64 rv] ∧ Blk (w5.alloc (.cells #[.int .i64 (pl : Int), .bool rok, .int .i64 rv] 51)) p9 51 [.int .i64 (pl : Int), .bool rok, .int .i64 rv]) := hid ⟨HM5.out.1.below (nbel w5 _), HM5.out.2.below (nbel w5 _), by
    have := Blk.new w5 [.int .i64 (pl : Int), .bool rok, .int .i64 rv] 51
    rw [hp9] at this
    exact this⟩
  unfold resC
  go_upto_region 9 with fail
  generalize w5.alloc (.cells #[.int .i64 (pl : Int), .bool rok, .int .i64 rv] 51) = w6 at HM6 ⊢
  clear HM5 hp9
  obtain ⟨N, hN⟩ : ∃ N, S'.length = N := ⟨_, rfl⟩
  have hGN : G'.length = N := by have := HM6.out.1.rel.len; rw [List.length_map, List.length_map] at this; omega
  have hN12 : N ≤ 12 := by rw [← hN]; exact HM6.out.1.mw.mach.len
  obtain ⟨mc, hmc, _⟩ := HM6.out.1.mw.mach.out
  obtain ⟨mcM, hmcM, _⟩ := HM6.out.1.mm.out
  rw [hN] at hmc
  rw [hGN] at hmcM
  have HN := hid hN
  have HGN := hid hGN
  have HW : Hid (RM w' mb a' S' mm am' G' w6 ∧ Blk w6 mb 46 [.slice a' N mc] ∧ Blk w6 mm 59 [.slice am' N mcM] ∧ Blk w6 p7 51 [.int .i64 (pl : Int), .bool rok, .int .i64 rv]) := hid ⟨HM6.out.1, hmc, hmcM, HM6.out.2.1⟩
  have t0 : ∀ nn, (w6.drewN nn).cell? ⟨p7, 0, none⟩ = some (.int .i64 (pl : Int)) := fun nn => HM6.out.2.1.cell 0
  have t1 : ∀ nn, (w6.drewN nn).cell? ⟨p7, 1, none⟩ = some (.bool rok) := fun nn => HM6.out.2.1.cell 1
  have t2 : ∀ nn, (w6.drewN nn).cell? ⟨p7, 2, none⟩ = some (.int .i64 rv) := fun nn => HM6.out.2.1.cell 2
  have u0 : ∀ nn, (w6.drewN nn).cell? ⟨p9, 0, none⟩ = some (.int .i64 (pl : Int)) := fun nn => HM6.out.2.2.cell 0
  have u1 : ∀ nn, (w6.drewN nn).cell? ⟨p9, 1, none⟩ = some (.bool rok) := fun nn => HM6.out.2.2.cell 1
  have u2 : ∀ nn, (w6.drewN nn).cell? ⟨p9, 2, none⟩ = some (.int .i64 rv) := fun nn => HM6.out.2.2.cell 2
  have m1 : ∀ nn, (w6.drewN nn).cell? ⟨mb, 0, none⟩ = some (.slice a' N mc) := fun nn => hmc.cell 0
  have m2 : ∀ nn, (w6.drewN nn).cell? ⟨mm, 0, none⟩ = some (.slice am' N mcM) := fun nn => hmcM.cell 0
  have hnr := neq_res (pl : Int) rok rv
  have dn : ((N : Int) != (N : Int)) = false := by simp
  clear HM6 hN hGN hmc hmcM
  go_quiet (fail)
  have HW2 : Hid (RM w' mb a' S' mm am' G' (w6.drewN nq) ∧ Blk (w6.drewN nq) mb 46 [.slice a' N mc] ∧ Blk (w6.drewN nq) mm 59 [.slice am' N mcM] ∧ Blk (w6.drewN nq) p7 51 [.int .i64 (pl : Int), .bool rok, .int .i64 rv]) := hid ⟨HW.out.1.below (Drew.below ⟨nq, rfl⟩ _), HW.out.2.1, HW.out.2.2.1, HW.out.2.2.2⟩
  generalize w6.drewN nq = w7 at HW2 ⊢
  clear t0 t1 t2 u0 u1 u2 m1 m2 hnr dn HW
  have t0 : ∀ nn, (w7.drewN nn).cell? ⟨p7, 0, none⟩ = some (.int .i64 (pl : Int)) := fun nn => HW2.out.2.2.2.cell 0
  have m1 : ∀ nn, (w7.drewN nn).cell? ⟨mb, 0, none⟩ = some (.slice a' N mc) := fun nn => HW2.out.2.1.cell 0
  obtain ⟨fr, hfr⟩ : ∃ fr : Nat, min (pl : Int) (N : Int) = (fr : Int) := ⟨min pl N, by omega⟩
  have hfrN : fr ≤ N := by omega
  go_upto_region 11 with fail
  go_quiet (fail)
  have HW3 : Hid (RM w' mb a' S' mm am' G' (w7.drewN nq) ∧ Blk (w7.drewN nq) mb 46 [.slice a' N mc] ∧ Blk (w7.drewN nq) mm 59 [.slice am' N mcM]) := hid ⟨HW2.out.1.below (Drew.below ⟨nq, rfl⟩ _), HW2.out.2.1, HW2.out.2.2.1⟩
  generalize w7.drewN nq = w8 at HW3 ⊢
  clear t0 m1 HW2
  try simp only [hfr]
  clear hfr
  obtain ⟨i0, hi0⟩ : ∃ i0 : Nat, (N : Int) - (fr : Int) = (i0 : Int) := ⟨N - fr, by omega⟩
  have hi0N : i0 ≤ N := by omega
  have m1 : w8.cell? ⟨mb, 0, none⟩ = some (.slice a' N mc) := HW3.out.2.1.cell 0
  go_upto_region 13 with fail
  clear m1
  go_loopw [11] (fun i wr => ∃ (i2 : Nat), i2 ≤ N ∧ i = .int .i64 i2 ∧ Hid (RM w' mb a' S' mm am' G' wr ∧ Blk wr mb 46 [.slice a' N mc] ∧ Blk wr mm 59 [.slice am' N mcM])) (fun i _ => N - (intOf i).toNat)
  case atStart => exact ⟨i0, hi0N, rfl, HW3⟩
  case round =>
  clear HW3
  obtain ⟨i2, hi2, rfl, HX⟩ := hrel
  have m1 : wr.cell? ⟨mb, 0, none⟩ = some (.slice a' N mc) := HX.out.2.1.cell 0
  by_cases hlt2 : i2 < N
  rotate_left
  · as_aux_lemma =>
    have d2 : decide ((i2 : Int) < (N : Int)) = false := decide_eq_false (by omega)
    have HXe := hid HX.out.1
    go_wp2
    exact ⟨⟨k + 1, a', S', am', G', by omega, by go_num, HXe⟩, by simp [intOf]; omega⟩
  as_aux_lemma =>
  have d2 : decide ((i2 : Int) < (N : Int)) = true := decide_eq_true (by omega)
  have j2 : (i2 : Int) < (N : Int) := by omega
  obtain ⟨p1, _, g, offg, hp1, _, ha', _, _⟩ := HX.out.1.mw.mach.at (k := i2) (by rw [HN.out]; exact hlt2)
  obtain ⟨pG, _, gm, om, hpG, _, ham, _, _⟩ := HX.out.1.mm.at (k := i2) (by rw [HGN.out]; exact hlt2)
  subst ha'
  subst ham
  have Hp1 := hid hp1
  have HpG := hid hpG
  have Heq : Hid (∀ x : Nat, x < 196608 → pG.2 x = memB p1.2 (x : Int)) := hid (HX.out.1.rel.eq i2 pG.2 p1.2 (by rw [List.getElem?_map, hpG]; rfl) (by rw [List.getElem?_map, hp1]; rfl))
  have HcR : Hid (∀ w3, RM w' mb (some ⟨g, offg, none⟩) S' mm (some ⟨gm, om, none⟩) G' w3 → w3.cell? ⟨g, offg + i2, none⟩ = some (.pointer (some ⟨p1.1, 0, none⟩))) := hid (fun w3 h => by
    obtain ⟨p', _, g', off', h1, _, h2, _, h3⟩ := h.mw.mach.at (k := i2) (by rw [HN.out]; exact hlt2)
    cases h2
    rw [Hp1.out] at h1
    cases h1
    exact h3)
  have HcM : Hid (∀ w3, RM w' mb (some ⟨g, offg, none⟩) S' mm (some ⟨gm, om, none⟩) G' w3 → w3.cell? ⟨gm, om + i2, none⟩ = some (.slice (some ⟨pG.1, 0, none⟩) 196608 196608)) := hid (fun w3 h => by
    obtain ⟨p', _, g', off', h1, _, h2, _, h3⟩ := h.mm.at (k := i2) (by rw [HGN.out]; exact hlt2)
    cases h2
    rw [HpG.out] at h1
    cases h1
    exact h3)
  have HS0 : Hid (RM w' mb (some ⟨g, offg, none⟩) S' mm (some ⟨gm, om, none⟩) G' wr.drew ∧ Blk wr.drew mb 46 [.slice (some ⟨g, offg, none⟩) N mc] ∧ Blk wr.drew mm 59 [.slice (some ⟨gm, om, none⟩) N mcM]) := hid ⟨HX.out.1.below (Drew.below ⟨1, rfl⟩ _), HX.out.2.1, HX.out.2.2⟩
  clear hp1 hpG HX
  go_upto_region 15 with fail
  clear m1 d2
  refine wp_region_heavy (fun w3 => RM w' mb (some ⟨g, offg, none⟩) S' mm (some ⟨gm, om, none⟩) G' w3 ∧ Blk w3 mb 46 [.slice (some ⟨g, offg, none⟩) N mc] ∧ Blk w3 mm 59 [.slice (some ⟨gm, om, none⟩) N mcM]) 16 [0, 1, 2, 3, 4, 5, 6, 8, 9, 10, 11, 12, 13, 14] [7, 15] rfl (by kernel_rfl) (by kernel_rfl) (fun d _ _ _ _ h => by cases d <;> exact h) HS0.out ?_
  apply Exists.intro
  refine ⟨?_, ?_⟩
  · intro W hW
    have e0 : ∀ x, (W x).cell? ⟨mb, 0, none⟩ = some (.slice (some ⟨g, offg, none⟩) N mc) := fun x => (hW x).2.1.cell 0
    have e1 : ∀ x, (W x).cell? ⟨mm, 0, none⟩ = some (.slice (some ⟨gm, om, none⟩) N mcM) := fun x => (hW x).2.2.cell 0
    have e2 : ∀ x, (W x).cell? ⟨g, offg + i2, none⟩ = some (.pointer (some ⟨p1.1, 0, none⟩)) := fun x => HcR.out _ (hW x).1
    have e3 : ∀ x, (W x).cell? ⟨gm, om + i2, none⟩ = some (.slice (some ⟨pG.1, 0, none⟩) 196608 196608) := fun x => HcM.out _ (hW x).1
    clear hW
    simp only [List.take, opsAt, List.drop, List.cons_append, List.nil_append]
    repeat (go_big_quiet_step (fail))
    exact rfl
  simp only [List.take, List.drop, opsAt, List.cons_append, List.nil_append, wpHv]
  generalize wr.drew = wd at HS0 ⊢
  have HRa := hid (HS0.out.1.mw.mach.regs p1 (List.mem_of_getElem? Hp1.out))
  go_wp2_with fail
  refine (members_reg p1.1 p1.2 _ HRa.out).mono ?_
  rintro e w9 ⟨gt, rfl, t1, u1, r1⟩
  have HS3 : Hid (RM w' mb (some ⟨g, offg, none⟩) S' mm (some ⟨gm, om, none⟩) G' w9 ∧ Blk w9 mb 46 [.slice (some ⟨g, offg, none⟩) N mc] ∧ Blk w9 mm 59 [.slice (some ⟨gm, om, none⟩) N mcM]) := hid (by
    obtain ⟨_, _, _, _, b1, _⟩ := HRa.out.out
    exact ⟨HS0.out.1.memb HRa.out r1 u1 (HS0.out.1.mw.rw p1 (List.mem_of_getElem? Hp1.out)), HS0.out.2.1.updT b1 (by decide) u1, HS0.out.2.2.updT b1 (by decide) u1⟩)
  have HT1 := hid t1
  have HT2 : Hid (Blk w9 pG.1 4 (tabL fun i => memB p1.2 (i : Int))) := hid (by
    rw [← tabL_ext Heq.out]
    exact HS3.out.1.mm.tabs pG (List.mem_of_getElem? HpG.out))
  clear t1 u1 r1 HRa HS0
  go_wp2_with fail
  refine ⟨HS3.out, ?_⟩
  go_wp2_with fail
  refine (sameTable_walk w9 w9 gt pG.1 (fun i => memB p1.2 (i : Int)) w9 ⟨Below.refl _ _, HT1.out⟩ ⟨Below.refl _ _, HT2.out⟩).mono ?_
  rintro e w10 ⟨rfl, hb10⟩
  have HS4 : Hid (RM w' mb (some ⟨g, offg, none⟩) S' mm (some ⟨gm, om, none⟩) G' w10 ∧ Blk w10 mb 46 [.slice (some ⟨g, offg, none⟩) N mc] ∧ Blk w10 mm 59 [.slice (some ⟨gm, om, none⟩) N mcM]) := hid ⟨HS3.out.1.below hb10, HS3.out.2.1.below hb10, HS3.out.2.2.below hb10⟩
  clear hb10 HS3 HT1 HT2
  go_wp2_with fail
  refine ⟨HS4.out, ?_⟩
  simp only [QN]
  go_wp2
  exact ⟨⟨i2 + 1, by omega, by go_num, HS4⟩, by simp [intOf]; omega⟩
end Go.Proofs.Qxb6500884a
