/- BooleanOps: the law. -/
import Derived.Test.Qxb6500884aClMild
import Derived.Test.Qxb6500884aClLst
import Derived.Test.Qxb6500884aClRelW
import Derived.Deep.CutBlock
namespace Go.Proofs.Qxb6500884a
open Go.RowKit
set_option linter.unusedSimpArgs false
set_option linter.unusedVariables false

theorem ABk.none {mb : Nat} {a : Option Addr} {S : List (Nat × List (Int × Int))} {o : COp} {v6 v7 v8 : Value} {w : World} (h : ¬ (5 ≤ o.kind ∧ o.kind ≤ 10)) : ABk mb a S o v6 v7 v8 w :=
  ⟨fun h1 h2 => by omega, fun h1 => by omega, fun h1 => by omega⟩
theorem needB_f {k : Int} (h : needB k = false) : ¬ (5 ≤ k ∧ k ≤ 10) := by
  unfold needB at h
  simp at h
  omega
set_option maxRecDepth 100000 in
set_option maxHeartbeats 4000000 in
theorem boolLaw_walk (a : Option Addr) (n c : Nat) (l : List COp) (w : World) (hs : Script w a n c l) :
    Calls Try.prog 4 #[.slice a n c] w fun e w' => e = .returned (.bool true) ∧ Below w.heap.size w w' := by
  have HS := hid hs
  have hl := hs.1.1
  clear hs
  go_enter Try.func4, Try.ntmps4
  go_wp2_with fail
  refine (small_walk a n c l _ HS.out).mono ?_
  rintro e w' ⟨r, rfl, rfl, hr⟩
  cases r with
  | false =>
    go_wp2
    go_ret
    exact ⟨rfl, Below.refl _ _⟩
  | true =>
  obtain ⟨hsm, hob⟩ := hr rfl
  have HOb := hid hob
  clear hr hob
  obtain ⟨mb, hmb⟩ : ∃ mb, w'.heap.size = mb := ⟨_, rfl⟩
  have HM0 := hid (MW.start w' hmb)
  go_upto_region 5 with fail
  generalize w'.alloc (.cells #[.slice none 0 0] 46) = w1 at HM0 ⊢
  have Hmb := hid hmb
  clear hmb
  go_loopw [23] (fun i wr => ∃ (k : Nat) (ma : Option Addr) (S : List (Nat × List (Int × Int))), k ≤ n ∧ i = .int .i64 k ∧ Hid (MW w' mb ma S wr)) (fun i _ => n - (intOf i).toNat)
  case atStart => exact ⟨0, none, [], Nat.zero_le _, rfl, HM0⟩
  case round =>
    clear HM0
    obtain ⟨k, ma, S, hk, rfl, HM⟩ := hrel
    by_cases hlt : k < n
    · as_aux_lemma =>
      obtain ⟨o, ho, hok, b, off, rfl, hb, c0, c1, c2, c3, c4⟩ := (HS.out.below HM.out.bel).at hlt
      have hob := HOb.out o (List.mem_of_getElem? ho)
      obtain ⟨kind, oa, ob, ia, inn, ic, iv, ra, rn, rc, rg⟩ := o
      dsimp only at c0 c1 c2 c3 c4 hob
      have dk : decide ((k : Int) < (n : Int)) = true := decide_eq_true (by omega)
      have i1 : (k : Int) < (n : Int) := by omega
      obtain ⟨pO, hpO⟩ : ∃ pO, wr.heap.size = pO := ⟨_, rfl⟩
      have HM2 : Hid (MW w' mb ma S (wr.alloc (.cells #[Value.int .i64 kind, .int .i64 oa, .int .i64 ob, .slice ia inn ic, .slice ra rn rc] 28)) ∧ Blk (wr.alloc (.cells #[Value.int .i64 kind, .int .i64 oa, .int .i64 ob, .slice ia inn ic, .slice ra rn rc] 28)) pO 28 [Value.int .i64 kind, .int .i64 oa, .int .i64 ob, .slice ia inn ic, .slice ra rn rc] ∧ OpOk (wr.alloc (.cells #[Value.int .i64 kind, .int .i64 oa, .int .i64 ob, .slice ia inn ic, .slice ra rn rc] 28)) ⟨kind, oa, ob, ia, inn, ic, iv, ra, rn, rc, rg⟩) := hid ⟨HM.out.below (nbel wr _), by
        have := Blk.new wr [Value.int .i64 kind, .int .i64 oa, .int .i64 ob, .slice ia inn ic, .slice ra rn rc] 28
        rw [hpO] at this
        exact this, hok.below (nbel wr _)⟩
      have HOk := hid (HS.out.2 _ (List.mem_of_getElem? ho))
      clear ho hok
      go_upto_region 7 with fail
      generalize wr.alloc (.cells #[Value.int .i64 kind, .int .i64 oa, .int .i64 ob, .slice ia inn ic, .slice ra rn rc] 28) = w2 at HM2 ⊢
      clear c0 c1 c2 c3 c4
      have HMa := hid HM2.out.1
      have HBo := hid HM2.out.2.1
      clear HM2 HM
      have o0 : w2.cell? ⟨pO, 0, none⟩ = some (.int .i64 kind) := HBo.out.cell 0
      obtain ⟨N, hN⟩ : ∃ N, S.length = N := ⟨_, rfl⟩
      have HN := hid hN
      have hN12 : N ≤ 12 := by rw [← hN]; exact HMa.out.mach.len
      obtain ⟨mc, hmc, _⟩ := HMa.out.mach.out
      rw [hN] at hmc
      have cm : w2.cell? ⟨mb, 0, none⟩ = some (.slice ma N mc) := hmc.cell 0
      clear hN hmc
      obtain ⟨NB, hNB⟩ : ∃ b, needB kind = b := ⟨_, rfl⟩
      obtain ⟨BI, hBI⟩ : ∃ b, (NB && decide (0 < N)) = b := ⟨_, rfl⟩
      go_upto_region 9 with fail
      go_cut [37] from 27 to 37 (fun v wc => v = .bool BI ∧ wc = w2)
      case first =>
        as_aux_lemma =>
        go_wp2_with fail
        refine (needs_walk kind w2).mono ?_
        rintro e wx ⟨rfl, rfl⟩
        rw [hNB]
        cases NB with
        | true =>
          by_cases h0 : 0 < N
          · have dN : decide (0 < (N : Int)) = true := decide_eq_true (by omega)
            go_wp2
            go_meet
            case rel => exact ⟨by rw [← hBI, decide_eq_true h0]; rfl, rfl⟩
          · have dN : decide (0 < (N : Int)) = false := decide_eq_false (by omega)
            go_wp2
            go_meet
            case rel => exact ⟨by rw [← hBI, decide_eq_false h0]; rfl, rfl⟩
        | false =>
          go_wp2
          go_meet
          case rel => exact ⟨by rw [← hBI]; rfl, rfl⟩
      case rest =>
      as_aux_lemma =>
      obtain ⟨rfl, hwc⟩ := hcut
      have hwc' := hwc.symm
      clear hwc
      subst hwc'
      have HNB := hid hNB
      have HBI := hid hBI
      clear hNB cm hBI
      go_upto_if 37 with fail
      go_cut [6, 7, 8] from 38 to 67 (fun v6 v7 v8 wc => Hid (MW w' mb ma S wc ∧ Blk wc pO 28 [Value.int .i64 kind, .int .i64 oa, .int .i64 ob, .slice ia inn ic, .slice ra rn rc] ∧ (0 < N → ABk mb ma S ⟨kind, oa, ob, ia, inn, ic, iv, ra, rn, rc, rg⟩ v6 v7 v8 wc)))
      case first =>
        as_aux_lemma =>
        have hBI := HBI.out
        clear HBI
        cases BI with
        | false =>
          have HA : Hid (MW w' mb ma S w2 ∧ Blk w2 pO 28 [Value.int .i64 kind, .int .i64 oa, .int .i64 ob, .slice ia inn ic, .slice ra rn rc] ∧ (0 < N → ABk mb ma S ⟨kind, oa, ob, ia, inn, ic, iv, ra, rn, rc, rg⟩ (.slice none 0 0) (.slice none 0 0) (.slice none 0 0) w2)) := hid ⟨HMa.out, HBo.out, fun h0 => ABk.none (needB_f (by rw [HNB.out]; rw [decide_eq_true h0, Bool.and_true] at hBI; exact hBI))⟩
          go_wp2
          go_meet
          case rel => exact HA
        | true =>
          obtain ⟨hNB, h0'⟩ := Bool.and_eq_true_iff.1 hBI
          have h0 : 0 < N := of_decide_eq_true h0'
          have H0 := hid h0
          clear hBI h0' hNB
          by_cases hk5 : kind = 5 ∨ kind = 6 ∨ kind = 7 ∨ kind = 8
          · as_aux_lemma =>
            have h0s : 0 < S.length := by rw [HN.out]; exact h0
            obtain ⟨p1, hp1⟩ : ∃ p, S.getD (regIx S.length oa) (0, []) = p := ⟨_, rfl⟩
            have hs1 : S[regIx S.length oa]? = some p1 := by rw [← hp1]; exact regAt h0s oa
            have HL1 : Hid (regL (S.map (·.2)) oa = p1.2) := hid (by rw [regL_map, hp1])
            obtain ⟨p2, hp2⟩ : ∃ p, S.getD (regIx S.length ob) (0, []) = p := ⟨_, rfl⟩
            have hs2 : S[regIx S.length ob]? = some p2 := by rw [← hp2]; exact regAt h0s ob
            have HL2 : Hid (regL (S.map (·.2)) ob = p2.2) := hid (by rw [regL_map, hp2])
            have HS1 := hid (List.mem_of_getElem? hs1)
            have HS2 := hid (List.mem_of_getElem? hs2)
            have HRg1 : Hid (∀ w3 : World, MW w' mb ma S w3 → Calls Try.prog 20 #[.pointer (some ⟨mb, 0, none⟩), .int .i64 oa] w3 fun e w'' => e = .returned (.pointer (some ⟨p1.1, 0, none⟩)) ∧ w'' = w3) := hid (fun w3 hb => reg_walk mb ma S oa p1 w3 hb.mach HOk.out.fa h0s hs1)
            have HRg2 : Hid (∀ w3 : World, MW w' mb ma S w3 → Calls Try.prog 20 #[.pointer (some ⟨mb, 0, none⟩), .int .i64 ob] w3 fun e w'' => e = .returned (.pointer (some ⟨p2.1, 0, none⟩)) ∧ w'' = w3) := hid (fun w3 hb => reg_walk mb ma S ob p2 w3 hb.mach HOk.out.fb h0s hs2)
            clear hp1 hs1 hp2 hs2
            have HFin : Hid (∀ (g1 g2 : Nat) (w3 : World), 5 ≤ kind → kind ≤ 8 → MW w' mb ma S w3 → Blk w3 pO 28 [Value.int .i64 kind, .int .i64 oa, .int .i64 ob, .slice ia inn ic, .slice ra rn rc] → Blk w3 g1 4 (tabL fun i => memB p1.2 (i : Int)) → Blk w3 g2 4 (tabL fun i => memB p2.2 (i : Int)) → Hid (MW w' mb ma S w3 ∧ Blk w3 pO 28 [Value.int .i64 kind, .int .i64 oa, .int .i64 ob, .slice ia inn ic, .slice ra rn rc] ∧ (0 < N → ABk mb ma S ⟨kind, oa, ob, ia, inn, ic, iv, ra, rn, rc, rg⟩ (.slice (some ⟨g1, 0, none⟩) 196608 196608) (.slice (some ⟨g2, 0, none⟩) 196608 196608) (.slice none 0 0) w3))) := hid (fun g1 g2 w3 hk hk' h1 h2 h3 h4 => hid ⟨h1, h2, fun _ => ⟨fun _ _ => ⟨g1, g2, rfl, rfl, by rw [HL1.out]; exact h3, by rw [HL2.out]; exact h4⟩, fun h => by dsimp only at h; omega, fun h => by dsimp only at h; omega⟩⟩)
            have HS0 : Hid (MW w' mb ma S w2.drew ∧ Blk w2.drew pO 28 [Value.int .i64 kind, .int .i64 oa, .int .i64 ob, .slice ia inn ic, .slice ra rn rc]) := hid ⟨HMa.out.below (Drew.below ⟨1, rfl⟩ _), HBo.out⟩
            clear HMa
            rcases hk5 with rfl | rfl | rfl | rfl
            all_goals
              go_upto_region 15 with fail
              refine wp_region_heavy (fun w3 => MW w' mb ma S w3 ∧ Blk w3 pO 28 [Value.int .i64 _, .int .i64 oa, .int .i64 ob, .slice ia inn ic, .slice ra rn rc]) 10 [0, 1, 2, 3, 5, 6, 7] [4, 8, 9] rfl (by kernel_rfl) (by kernel_rfl) (fun d _ _ _ _ h => by cases d <;> exact h) HS0.out ?_
              apply Exists.intro
              refine ⟨?_, ?_⟩
              · intro W hW
                have d0 : ∀ x, (W x).cell? ⟨pO, 1, none⟩ = some (.int .i64 oa) := fun x => (hW x).2.cell 1
                have d1 : ∀ x, (W x).cell? ⟨pO, 2, none⟩ = some (.int .i64 ob) := fun x => (hW x).2.cell 2
                have HR1 : Hid (∀ x, Calls Try.prog 20 #[.pointer (some ⟨mb, 0, none⟩), .int .i64 oa] (W x) fun e w'' => e = .returned (.pointer (some ⟨p1.1, 0, none⟩)) ∧ w'' = W x) := hid (fun x => HRg1.out _ (hW x).1)
                clear hW
                simp only [List.take, opsAt, List.drop, List.cons_append, List.nil_append]
                repeat (go_big_quiet_step ((go_at_call 20; first | (with_reducible exact Calls.class_same (HR1.out _)))))
                exact rfl
              simp only [List.take, List.drop, opsAt, List.cons_append, List.nil_append, wpHv]
              generalize w2.drew = w2d at HS0 ⊢
              have HRa := hid (HS0.out.1.mach.regs p1 HS1.out)
              go_wp2_with fail
              refine (members_reg p1.1 p1.2 _ HRa.out).mono ?_
              rintro e w3 ⟨g1, rfl, t1, u1, r1⟩
              have HMi := hid (Mild.memb HRa.out r1 u1 (HS0.out.1.rw p1 HS1.out))
              have HT1 := hid t1
              have HS3 := hid (And.intro (HS0.out.1.mild HMi.out) (HMi.out.blk _ _ _ (by decide) HS0.out.2))
              clear t1 u1 r1
              go_wp2_with fail
              refine ⟨HS3.out, ?_⟩
              go_wp2_with fail
              refine (HRg2.out _ HS3.out.1).mono ?_
              rintro e w3' ⟨rfl, hw3⟩
              have hw3' := hw3.symm
              clear hw3
              subst hw3'
              go_wp2_with fail
              refine ⟨HS3.out, ?_⟩
              have HRb := hid (HS3.out.1.mach.regs p2 HS2.out)
              go_wp2_with fail
              refine (members_reg p2.1 p2.2 _ HRb.out).mono ?_
              rintro e w4 ⟨g2, rfl, t2, u2, r2⟩
              have HMj := hid (Mild.memb HRb.out r2 u2 (HS3.out.1.rw p2 HS2.out))
              have HT2 := hid t2
              have HS4 := hid (And.intro (HS3.out.1.mild HMj.out) (HMj.out.blk _ _ _ (by decide) HS3.out.2))
              have HT1' := hid (HMj.out.blk _ _ _ (by decide) HT1.out)
              clear t2 u2 r2
              go_wp2_with fail
              refine ⟨HS4.out, ?_⟩
              simp only [QN]
              go_wp2_with fail
              go_meet
              case rel => exact HFin.out g1 g2 w4 (by decide) (by decide) HS4.out.1 HS4.out.2 HT1'.out HT2.out
          by_cases hk9 : kind = 9
          · as_aux_lemma =>
            subst hk9
            have h0s : 0 < S.length := by rw [HN.out]; exact h0
            obtain ⟨p1, hp1⟩ : ∃ p, S.getD (regIx S.length oa) (0, []) = p := ⟨_, rfl⟩
            have hs1 : S[regIx S.length oa]? = some p1 := by rw [← hp1]; exact regAt h0s oa
            have HL1 : Hid (regL (S.map (·.2)) oa = p1.2) := hid (by rw [regL_map, hp1])
            have HS1 := hid (List.mem_of_getElem? hs1)
            have HRg1 := hid (reg_walk mb ma S oa p1 w2 HMa.out.mach HOk.out.fa h0s hs1)
            have o1 : w2.cell? ⟨pO, 1, none⟩ = some (.int .i64 oa) := HBo.out.cell 1
            have HRa := hid (HMa.out.mach.regs p1 HS1.out)
            clear hp1 hs1
            go_wp2_with fail
            refine HRg1.out.mono ?_
            rintro e w3' ⟨rfl, hw3⟩
            have hw3' := hw3.symm
            clear hw3
            subst hw3'
            go_wp2_with fail
            refine (members_reg p1.1 p1.2 _ HRa.out).mono ?_
            rintro e w3 ⟨g1, rfl, t1, u1, r1⟩
            have HMi := hid (Mild.memb HRa.out r1 u1 (HMa.out.rw p1 HS1.out))
            have HFin : Hid (MW w' mb ma S w3 ∧ Blk w3 pO 28 [Value.int .i64 9, .int .i64 oa, .int .i64 ob, .slice ia inn ic, .slice ra rn rc] ∧ (0 < N → ABk mb ma S ⟨9, oa, ob, ia, inn, ic, iv, ra, rn, rc, rg⟩ (.slice (some ⟨g1, 0, none⟩) 196608 196608) (.slice none 0 0) (.slice none 0 0) w3)) := hid ⟨HMa.out.mild HMi.out, HMi.out.blk _ _ _ (by decide) HBo.out, fun _ => ⟨fun _ h => by dsimp only at h; omega, fun _ => ⟨g1, rfl, by rw [HL1.out]; exact t1⟩, fun h => by dsimp only at h; omega⟩⟩
            clear t1 u1 r1
            go_wp2
            go_meet
            case rel => exact HFin
          by_cases hk10 : kind = 10
          · as_aux_lemma =>
            subst hk10
            have h0s : 0 < S.length := by rw [HN.out]; exact h0
            have o4 : w2.cell? ⟨pO, 4, none⟩ = some (.slice ra rn rc) := HBo.out.cell 4
            have HFa := hid (family_walk mb ma S ra rn rc rg w2 HMa.out.mach h0s (HOk.out.below HMa.out.bel).rg hob.2)
            go_wp2_with fail
            refine HFa.out.mono ?_
            rintro e w3 ⟨gf, rfl, hgf, hbf, hbel⟩
            have HFin : Hid (MW w' mb ma S w3 ∧ Blk w3 pO 28 [Value.int .i64 10, .int .i64 oa, .int .i64 ob, .slice ia inn ic, .slice ra rn rc] ∧ (0 < N → ABk mb ma S ⟨10, oa, ob, ia, inn, ic, iv, ra, rn, rc, rg⟩ (.slice none 0 0) (.slice none 0 0) (.slice (some ⟨gf, 0, none⟩) rn rn) w3)) := hid ⟨HMa.out.below hbel, HBo.out.below hbel, fun _ => ⟨fun _ h => by dsimp only at h; omega, fun h => by dsimp only at h; omega, fun _ => ⟨gf, rfl, hbf, by
              obtain ⟨c, m1, _⟩ := HMa.out.mach.out
              have := m1.lt
              omega, fun e => by
              obtain ⟨c, _, m2⟩ := HMa.out.mach.out
              obtain ⟨cs, hc⟩ := m2.ty gf e
              have := hc.lt
              omega⟩⟩⟩
            clear hbf hbel hgf
            go_wp2
            go_meet
            case rel => exact HFin
          as_aux_lemma =>
          have HA : Hid (MW w' mb ma S w2 ∧ Blk w2 pO 28 [Value.int .i64 kind, .int .i64 oa, .int .i64 ob, .slice ia inn ic, .slice ra rn rc] ∧ (0 < N → ABk mb ma S ⟨kind, oa, ob, ia, inn, ic, iv, ra, rn, rc, rg⟩ (.slice none 0 0) (.slice none 0 0) (.slice none 0 0) w2)) := hid ⟨HMa.out, HBo.out, fun h0 => ABk.none (by dsimp only; omega)⟩
          have q5 : (kind == 5) = false := by simp; omega
          have q6 : (kind == 6) = false := by simp; omega
          have q7 : (kind == 7) = false := by simp; omega
          have q8 : (kind == 8) = false := by simp; omega
          have q9 : (kind == 9) = false := by simp; omega
          have q10 : (kind == 10) = false := by simp; omega
          clear hk5 hk9 hk10
          go_wp2
          go_meet
          case rel => exact HA
      case rest =>
      as_aux_lemma =>
      have HX := hcut
      clear hcut HMa HBo
      have o0 : wc.cell? ⟨pO, 0, none⟩ = some (.int .i64 kind) := HX.out.2.1.cell 0
      have o1 : wc.cell? ⟨pO, 1, none⟩ = some (.int .i64 oa) := HX.out.2.1.cell 1
      have o2 : wc.cell? ⟨pO, 2, none⟩ = some (.int .i64 ob) := HX.out.2.1.cell 2
      have o3 : wc.cell? ⟨pO, 3, none⟩ = some (.slice ia inn ic) := HX.out.2.1.cell 3
      have o4 : wc.cell? ⟨pO, 4, none⟩ = some (.slice ra rn rc) := HX.out.2.1.cell 4
      have HSt := hid (step_walk mb ma S ⟨kind, oa, ob, ia, inn, ic, iv, ra, rn, rc, rg⟩ wc HX.out.1.mach (HOk.out.below HX.out.1.bel) hob.1 hob.2)
      go_wp2_with fail
      refine HSt.out.mono ?_
      rintro e w3 hp
      obtain ⟨res, pa, pn, pc, ps, a', rfl, hms⟩ := HX.out.1.step hp
      obtain ⟨rp, rok, rv, hres⟩ := hms.st.isRes
      have HSS := hid hms.st
      subst hres
      have hpn : pn ≤ 196608 := by have h1 := hms.len; have h2 := hms.fl.len; rw [List.length_map] at h2; omega
      have HU : Hid (LP w' mb a' (ps.foldl push12 S) pa pn pc ps w3 ∧ Blk w3 pO 28 [Value.int .i64 kind, .int .i64 oa, .int .i64 ob, .slice ia inn ic, .slice ra rn rc] ∧ (0 < N → ABk mb ma S ⟨kind, oa, ob, ia, inn, ic, iv, ra, rn, rc, rg⟩ u6 u7 u8 w3) ∧ ∀ p ∈ S, RegOk w3 p.1 p.2 ∧ w'.heap.size ≤ p.1) := hid ⟨hms.lp HX.out.1.bel, HX.out.1.mach.blkT hms.upd HX.out.2.1 (by decide) (by decide), fun h => (HX.out.2.2 h).step HX.out.1.mach hms.upd, fun p hp => ⟨(HX.out.1.mach.regs p hp).keep (UpdM.keep HX.out.1.mach hms.upd), HX.out.1.rw p hp⟩⟩
      clear hp hms HSt HX o0 o1 o2 o3 o4
      generalize ps.foldl push12 S = S' at HU
      have HV : Hid (LP w' mb a' S' pa pn pc ps (w3.alloc (.cells #[.int .i64 rp, .bool rok, .int .i64 rv] 51)) ∧ Blk (w3.alloc (.cells #[.int .i64 rp, .bool rok, .int .i64 rv] 51)) pO 28 [Value.int .i64 kind, .int .i64 oa, .int .i64 ob, .slice ia inn ic, .slice ra rn rc] ∧ (0 < N → ABk mb ma S ⟨kind, oa, ob, ia, inn, ic, iv, ra, rn, rc, rg⟩ u6 u7 u8 (w3.alloc (.cells #[.int .i64 rp, .bool rok, .int .i64 rv] 51))) ∧ ∀ p ∈ S, RegOk (w3.alloc (.cells #[.int .i64 rp, .bool rok, .int .i64 rv] 51)) p.1 p.2 ∧ w'.heap.size ≤ p.1) := hid ⟨HU.out.1.below (nbel w3 _), HU.out.2.1.below (nbel w3 _), fun h => (HU.out.2.2.1 h).below (nbel w3 _), fun p hp => ⟨(HU.out.2.2.2 p hp).1.below (nbel w3 _), (HU.out.2.2.2 p hp).2⟩⟩
      unfold resC
      go_upto_region 21 with fail
      generalize w3.alloc (.cells #[.int .i64 rp, .bool rok, .int .i64 rv] 51) = w4 at HV ⊢
      clear HU dk
      by_cases hp1 : pn = 1
      rotate_left
      · as_aux_lemma =>
        have dp : ((pn : Int) != 1) = true := by simp; omega
        have HLw := hid HV.out.1.mw
        go_wp2
        exact ⟨⟨k + 1, a', S', by omega, by go_num, HLw⟩, by simp [intOf]; omega⟩
      subst hp1
      obtain ⟨p, rfl⟩ : ∃ p, ps = [p] := by
        have h2 := HV.out.1.fl.len
        rw [List.length_map] at h2
        exact List.length_eq_one_iff.1 h2
      obtain ⟨p', gp, offp, hp', hr, hw, hpa, ce⟩ := HV.out.1.at (k := 0) (by omega)
      cases hp'
      subst hpa
      rw [Nat.add_zero] at ce
      have HR := hid hr
      have HW := hid hw
      have H0N : Hid (5 ≤ kind → kind ≤ 10 → 0 < N) := hid (fun h1 h2 => by
        rcases HSS.out.isOne (l := p.2) rfl with ⟨f, _, hne, _⟩ | h3
        · have := hne (by unfold needB; simp; omega)
          rw [← HN.out]
          exact Nat.pos_of_ne_zero fun e => this (by rw [List.map_eq_nil_iff]; exact List.length_eq_zero_iff.1 e)
        · dsimp only at h3; omega)
      have Hsem : Hid (∀ x : Nat, x < 196608 → (kind = 5 → memB p.2 (x : Int) = (memB (regL (S.map (·.2)) oa) (x : Int) || memB (regL (S.map (·.2)) ob) (x : Int))) ∧ (kind = 6 → memB p.2 (x : Int) = (memB (regL (S.map (·.2)) oa) (x : Int) && memB (regL (S.map (·.2)) ob) (x : Int))) ∧ (kind = 7 → memB p.2 (x : Int) = (memB (regL (S.map (·.2)) oa) (x : Int) && !memB (regL (S.map (·.2)) ob) (x : Int))) ∧ (kind = 8 → memB p.2 (x : Int) = (memB (regL (S.map (·.2)) oa) (x : Int) != memB (regL (S.map (·.2)) ob) (x : Int))) ∧ (kind = 9 → memB p.2 (x : Int) = !memB (regL (S.map (·.2)) oa) (x : Int)) ∧ (kind = 10 → memB p.2 (x : Int) = (famLs (S.map (·.2)) rg).any fun l => memB l (x : Int)) ∧ (kind = 1 → memB p.2 (x : Int) = (decide (oa ≤ (x : Int)) && decide ((x : Int) ≤ ob)))) := hid (fun x hx => by
        rcases HSS.out.isOne (l := p.2) rfl with ⟨f, hf, hne, _, hm⟩ | h3
        · have h4 := hm (x : Int) (by omega) (by omega)
          refine ⟨?_, ?_, ?_, ?_, ?_, ?_, ?_⟩
          all_goals
            rintro rfl
            simp [kindF] at hf
            rw [h4, ← hf]
        · dsimp only at h3
          refine ⟨?_, ?_, ?_, ?_, ?_, ?_, ?_⟩
          all_goals
            intro h5
            omega)
      have HNrm := hid hr.nrm
      clear hr hw
      go_upto_region 22 with fail
      go_wp2_with fail
      refine (members_reg p.1 p.2 _ HR.out).mono ?_
      rintro e wC ⟨gT, rfl, t1, u1, r1⟩
      have HMi := hid (Mild.memb HR.out r1 u1 HW.out)
      have HC : Hid (MW w' mb a' S' wC ∧ Blk wC pO 28 [Value.int .i64 kind, .int .i64 oa, .int .i64 ob, .slice ia inn ic, .slice ra rn rc] ∧ (0 < N → ABk mb ma S ⟨kind, oa, ob, ia, inn, ic, iv, ra, rn, rc, rg⟩ u6 u7 u8 wC) ∧ (∀ p ∈ S, RegOk wC p.1 p.2 ∧ w'.heap.size ≤ p.1) ∧ Blk wC gT 4 (tabL fun i => memB p.2 (i : Int)) ∧ RegOk wC p.1 p.2 ∧ Fl wC 38 (some ⟨gp, offp, none⟩) 1 pc [ptV p]) := hid ⟨HV.out.1.mw.mild HMi.out, HMi.out.blk _ _ _ (by decide) HV.out.2.1, fun h => (HV.out.2.2.1 h).mild HMi.out, fun p hp => ⟨HMi.out.reg _ _ (HV.out.2.2.2 p hp).1, (HV.out.2.2.2 p hp).2⟩, t1, r1, HV.out.1.fl.mild (by decide) HMi.out⟩
      clear t1 u1 r1 HMi HV HR ce
      go_upto_region 24 with fail
      go_loopw [12] (fun i wr2 => ∃ (x : Nat), x ≤ 196608 ∧ i = .int .i64 x ∧ Hid (Mild w' wC wr2)) (fun i _ => 196608 - (intOf i).toNat)
      case atStart => exact ⟨0, by omega, rfl, hid (Mild.refl _ _)⟩
      case round =>
        obtain ⟨x, hx, rfl, HMi⟩ := hrel
        by_cases hlt3 : x < 196608
        · as_aux_lemma =>
          have d3 : decide ((x : Int) ≤ 196607) = true := decide_eq_true (by omega)
          have j3 : (x : Int) < 196608 := by omega
          obtain ⟨B, hB⟩ : ∃ b, memB p.2 (x : Int) = b := ⟨_, rfl⟩
          have k0 : wr.cell? ⟨gT, x, none⟩ = some (.bool B) := by rw [(HMi.out.blk _ _ _ (by decide) HC.out.2.2.2.2.1).cell, ← hB]; exact tabL_get _ hlt3
          have HBo := hid (HMi.out.blk _ _ _ (by decide) HC.out.2.1)
          have o0 : wr.cell? ⟨pO, 0, none⟩ = some (.int .i64 kind) := HBo.out.cell 0
          have HB := hid hB
          clear hB
          go_upto_block 5 with fail
          go_cut [13] from 91 to 174 (fun v wd => v = .bool B ∧ Hid (Mild w' wr wd))
          case first =>
            as_aux_lemma =>
            have HAB : Hid (0 < N → ABk mb ma S ⟨kind, oa, ob, ia, inn, ic, iv, ra, rn, rc, rg⟩ u6 u7 u8 wr) := hid (fun h => (HC.out.2.2.1 h).mild HMi.out)
            have HRS : Hid (∀ p ∈ S, RegOk wr p.1 p.2 ∧ w'.heap.size ≤ p.1) := hid (fun p hp => ⟨HMi.out.reg _ _ (HC.out.2.2.2.1 p hp).1, (HC.out.2.2.2.1 p hp).2⟩)
            have HQ := hid (Hsem.out x hlt3)
            have HH := H0N
            clear HC HMi Hsem H0N HSS
            by_cases hk5 : kind = 5
            · as_aux_lemma =>
              obtain ⟨g1, g2, e6, e7, t1, t2⟩ := (HAB.out (HH.out (by omega) (by omega))).two (by dsimp only; omega) (by dsimp only; omega)
              subst e6 e7
              obtain ⟨b1, hb1⟩ : ∃ b, memB (regL (S.map (·.2)) oa) (x : Int) = b := ⟨_, rfl⟩
              obtain ⟨b2, hb2⟩ : ∃ b, memB (regL (S.map (·.2)) ob) (x : Int) = b := ⟨_, rfl⟩
              have k1 : wr.cell? ⟨g1, x, none⟩ = some (.bool b1) := by rw [t1.cell, ← hb1]; exact tabL_get _ hlt3
              have k2 : wr.cell? ⟨g2, x, none⟩ = some (.bool b2) := by rw [t2.cell, ← hb2]; exact tabL_get _ hlt3
              have hq := HQ.out.1 hk5
              rw [hb1, hb2, HB.out] at hq
              have HQ2 := hid hq
              clear t1 t2 hb1 hb2 hq HQ HAB
              subst hk5
              cases b1
              all_goals
                go_wp2
                go_meet
                case rel => exact ⟨by rw [HQ2.out]; rfl, hid (Mild.refl _ _)⟩
            by_cases hk6 : kind = 6
            · as_aux_lemma =>
              obtain ⟨g1, g2, e6, e7, t1, t2⟩ := (HAB.out (HH.out (by omega) (by omega))).two (by dsimp only; omega) (by dsimp only; omega)
              subst e6 e7
              obtain ⟨b1, hb1⟩ : ∃ b, memB (regL (S.map (·.2)) oa) (x : Int) = b := ⟨_, rfl⟩
              obtain ⟨b2, hb2⟩ : ∃ b, memB (regL (S.map (·.2)) ob) (x : Int) = b := ⟨_, rfl⟩
              have k1 : wr.cell? ⟨g1, x, none⟩ = some (.bool b1) := by rw [t1.cell, ← hb1]; exact tabL_get _ hlt3
              have k2 : wr.cell? ⟨g2, x, none⟩ = some (.bool b2) := by rw [t2.cell, ← hb2]; exact tabL_get _ hlt3
              have hq := HQ.out.2.1 hk6
              rw [hb1, hb2, HB.out] at hq
              have HQ2 := hid hq
              clear t1 t2 hb1 hb2 hq HQ HAB
              subst hk6
              cases b1
              all_goals
                go_wp2
                go_meet
                case rel => exact ⟨by rw [HQ2.out]; rfl, hid (Mild.refl _ _)⟩
            by_cases hk7 : kind = 7
            · as_aux_lemma =>
              obtain ⟨g1, g2, e6, e7, t1, t2⟩ := (HAB.out (HH.out (by omega) (by omega))).two (by dsimp only; omega) (by dsimp only; omega)
              subst e6 e7
              obtain ⟨b1, hb1⟩ : ∃ b, memB (regL (S.map (·.2)) oa) (x : Int) = b := ⟨_, rfl⟩
              obtain ⟨b2, hb2⟩ : ∃ b, memB (regL (S.map (·.2)) ob) (x : Int) = b := ⟨_, rfl⟩
              have k1 : wr.cell? ⟨g1, x, none⟩ = some (.bool b1) := by rw [t1.cell, ← hb1]; exact tabL_get _ hlt3
              have k2 : wr.cell? ⟨g2, x, none⟩ = some (.bool b2) := by rw [t2.cell, ← hb2]; exact tabL_get _ hlt3
              have hq := HQ.out.2.2.1 hk7
              rw [hb1, hb2, HB.out] at hq
              have HQ2 := hid hq
              clear t1 t2 hb1 hb2 hq HQ HAB
              subst hk7
              cases b1
              all_goals
                go_wp2
                go_meet
                case rel => exact ⟨by rw [HQ2.out]; rfl, hid (Mild.refl _ _)⟩
            by_cases hk8 : kind = 8
            · as_aux_lemma =>
              obtain ⟨g1, g2, e6, e7, t1, t2⟩ := (HAB.out (HH.out (by omega) (by omega))).two (by dsimp only; omega) (by dsimp only; omega)
              subst e6 e7
              obtain ⟨b1, hb1⟩ : ∃ b, memB (regL (S.map (·.2)) oa) (x : Int) = b := ⟨_, rfl⟩
              obtain ⟨b2, hb2⟩ : ∃ b, memB (regL (S.map (·.2)) ob) (x : Int) = b := ⟨_, rfl⟩
              have k1 : wr.cell? ⟨g1, x, none⟩ = some (.bool b1) := by rw [t1.cell, ← hb1]; exact tabL_get _ hlt3
              have k2 : wr.cell? ⟨g2, x, none⟩ = some (.bool b2) := by rw [t2.cell, ← hb2]; exact tabL_get _ hlt3
              have hq := HQ.out.2.2.2.1 hk8
              rw [hb1, hb2, HB.out] at hq
              have HQ2 := hid hq
              clear t1 t2 hb1 hb2 hq HQ HAB
              subst hk8
              go_upto_region 35 with fail
              go_region
              go_wp2
              go_meet
              case rel => exact ⟨by rw [HQ2.out]; rfl, hid (Mild.below (Drew.below ⟨1, rfl⟩ _))⟩
            by_cases hk9 : kind = 9
            · as_aux_lemma =>
              obtain ⟨g1, e6, t1⟩ := (HAB.out (HH.out (by omega) (by omega))).one hk9
              subst e6
              obtain ⟨b1, hb1⟩ : ∃ b, memB (regL (S.map (·.2)) oa) (x : Int) = b := ⟨_, rfl⟩
              have k1 : wr.cell? ⟨g1, x, none⟩ = some (.bool b1) := by rw [t1.cell, ← hb1]; exact tabL_get _ hlt3
              have hq := HQ.out.2.2.2.2.1 hk9
              rw [hb1, HB.out] at hq
              have HQ2 := hid hq
              clear t1 hb1 hq HQ HAB
              subst hk9
              go_wp2
              go_meet
              case rel => exact ⟨by rw [HQ2.out], hid (Mild.refl _ _)⟩
            by_cases hk1 : kind = 1
            · as_aux_lemma =>
              have hq := HQ.out.2.2.2.2.2.2 hk1
              rw [HB.out] at hq
              have HQ2 := hid hq
              clear hq HQ HAB
              subst hk1
              have o1 : wr.cell? ⟨pO, 1, none⟩ = some (.int .i64 oa) := HBo.out.cell 1
              have o2 : wr.cell? ⟨pO, 2, none⟩ = some (.int .i64 ob) := HBo.out.cell 2
              by_cases ha : oa ≤ (x : Int)
              · have da : decide (oa ≤ (x : Int)) = true := decide_eq_true ha
                by_cases hc : (x : Int) ≤ ob
                · have dc : decide ((x : Int) ≤ ob) = true := decide_eq_true hc
                  go_wp2
                  go_meet
                  case rel => exact ⟨by rw [HQ2.out, da, dc]; rfl, hid (Mild.refl _ _)⟩
                · have dc : decide ((x : Int) ≤ ob) = false := decide_eq_false hc
                  go_wp2
                  go_meet
                  case rel => exact ⟨by rw [HQ2.out, da, dc]; rfl, hid (Mild.refl _ _)⟩
              · have da : decide (oa ≤ (x : Int)) = false := decide_eq_false ha
                go_wp2
                go_meet
                case rel => exact ⟨by rw [HQ2.out, da]; rfl, hid (Mild.refl _ _)⟩
            by_cases hk10 : kind = 10
            · as_aux_lemma =>
              obtain ⟨gf, e8, t1, _, _⟩ := (HAB.out (HH.out (by omega) (by omega))).fam hk10
              have h0s : 0 < S.length := by rw [HN.out]; exact HH.out (by omega) (by omega)
              dsimp only at e8 t1
              subst e8
              have HFb := hid t1
              have hq := HQ.out.2.2.2.2.2.1 hk10
              rw [HB.out, famLs_map, List.any_map] at hq
              have HQ2 := hid hq
              have hfl : (famL S rg).length = rn := by rw [famL_len]; exact HOk.out.rg.1.1
              have HFl := hid hfl
              have hrn := hob.2
              have HFs : Hid (∀ q ∈ famL S rg, RegOk wr q.1 q.2 ∧ w'.heap.size ≤ q.1) := hid (fun q hq => HRS.out q (famL_mem h0s hq))
              generalize famL S rg = F at HFb HQ2 HFl HFs
              clear t1 hq HQ HAB hfl HRS h0s
              subst hk10
              go_upto_region 41 with fail
              go_loopw [13, 150] (fun v i wr2 => ∃ (y : Nat), y ≤ rn ∧ i = .int .i64 y ∧ v = .bool ((F.take y).any fun q => memB q.2 (x : Int)) ∧ Hid (Mild w' wr wr2)) (fun _ i _ => rn - (intOf i).toNat)
              case atStart => exact ⟨0, by omega, rfl, rfl, hid (Mild.refl _ _)⟩
              case round =>
                obtain ⟨y, hy, rfl, rfl, HMj⟩ := hrel
                by_cases hlt4 : y < rn
                rotate_left
                · as_aux_lemma =>
                  have d4 : decide ((y : Int) < (rn : Int)) = false := decide_eq_false (by omega)
                  have hy' : y = rn := by omega
                  subst hy'
                  have hbb : ((F.take y).any fun q => memB q.2 (x : Int)) = B := by
                    rw [HQ2.out, List.take_of_length_le (by rw [HFl.out]; exact Nat.le_refl _)]
                    rfl
                  rw [hbb]
                  go_wp2
                  go_meet
                  case rel => exact ⟨rfl, HMj⟩
                have d4 : decide ((y : Int) < (rn : Int)) = true := decide_eq_true (by omega)
                have j4 : (y : Int) < (rn : Int) := by omega
                obtain ⟨q, hq⟩ : ∃ q, F[y]? = some q := ⟨F[y]'(by rw [HFl.out]; exact hlt4), List.getElem?_eq_getElem _⟩
                have ce : wr.cell? ⟨gf, y, none⟩ = some (.pointer (some ⟨q.1, 0, none⟩)) := by
                  rw [(HMj.out.blk _ _ _ (by decide) HFb.out).cell, List.getElem?_map, hq]
                  rfl
                have hRq : RegOk wr q.1 q.2 := HMj.out.reg _ _ (HFs.out q (List.mem_of_getElem? hq)).1
                have HRq := hid hRq
                have HWq := hid (HFs.out q (List.mem_of_getElem? hq)).2
                have HTk : Hid (((F.take (y + 1)).any fun q => memB q.2 (x : Int)) = (((F.take y).any fun q => memB q.2 (x : Int)) || memB q.2 (x : Int))) := hid (by rw [List.take_add_one, hq, List.any_append]; simp)
                clear hRq hq
                generalize ((F.take y).any fun q => memB q.2 (x : Int)) = V at HTk ⊢
                cases V with
                | true =>
                  go_wp2
                  exact ⟨⟨y + 1, by omega, by go_num, by rw [HTk.out]; rfl, HMj⟩, by simp [intOf]; omega⟩
                | false =>
                  go_wp2_with fail
                  refine (members_reg q.1 q.2 _ HRq.out).mono ?_
                  rintro e wM ⟨gq, rfl, tq, uq, rq⟩
                  have HMm := hid (HMj.out.trans (Mild.memb HRq.out rq uq HWq.out))
                  have cq : wM.cell? ⟨gq, x, none⟩ = some (.bool (memB q.2 (x : Int))) := by rw [tq.cell]; exact tabL_get _ hlt3
                  clear tq uq rq
                  obtain ⟨bq, hbq⟩ : ∃ b, memB q.2 (x : Int) = b := ⟨_, rfl⟩
                  rw [hbq] at cq HTk
                  clear hbq
                  go_wp2
                  exact ⟨⟨y + 1, by omega, by go_num, by rw [HTk.out]; rfl, HMm⟩, by simp [intOf]; omega⟩
            as_aux_lemma =>
            have q5 : (kind == 5) = false := by simp; omega
            have q6 : (kind == 6) = false := by simp; omega
            have q7 : (kind == 7) = false := by simp; omega
            have q8 : (kind == 8) = false := by simp; omega
            have q9 : (kind == 9) = false := by simp; omega
            have q10 : (kind == 10) = false := by simp; omega
            have q1 : (kind == 1) = false := by simp; omega
            clear hk5 hk6 hk7 hk8 hk9 hk10 hk1
            go_wp2
            go_meet
            case rel => exact ⟨rfl, hid (Mild.refl _ _)⟩
          case rest =>
          as_aux_lemma =>
          obtain ⟨rfl, HMj⟩ := hcut
          have k0' : wc.cell? ⟨gT, x, none⟩ = some (.bool B) := by rw [((HMi.out.trans HMj.out).blk _ _ _ (by decide) HC.out.2.2.2.2.1).cell, ← HB.out]; exact tabL_get _ hlt3
          have HMk := hid (HMi.out.trans HMj.out)
          have dB : (B != B) = false := by simp
          go_wp2
          exact ⟨⟨x + 1, by omega, by go_num, HMk⟩, by simp [intOf]; omega⟩
        as_aux_lemma =>
        have d3 : decide ((x : Int) ≤ 196607) = false := decide_eq_false (by omega)
        have HBo := hid (HMi.out.blk _ _ _ (by decide) HC.out.2.1)
        have o0 : wr.cell? ⟨pO, 0, none⟩ = some (.int .i64 kind) := HBo.out.cell 0
        have o1 : wr.cell? ⟨pO, 1, none⟩ = some (.int .i64 oa) := HBo.out.cell 1
        have o2 : wr.cell? ⟨pO, 2, none⟩ = some (.int .i64 ob) := HBo.out.cell 2
        have HMz := hid (HC.out.1.mild HMi.out)
        by_cases hk1 : kind = 1
        rotate_left
        · as_aux_lemma =>
          have q1 : (kind == 1) = false := by simp; omega
          go_wp2
          exact ⟨⟨k + 1, a', S', by omega, by go_num, HMz⟩, by simp [intOf]; omega⟩
        have hq : oa ≤ ob ∨ p.2 = [] := by
          by_cases h : oa ≤ ob
          · exact .inl h
          · right
            refine nrm_ext2 HNrm.out ⟨fun q hq => (by simp at hq), fun i a b ha hb => (by simp at hb)⟩ (fun z h0 h1 => ?_)
            have h2 := (Hsem.out z.toNat (by omega)).2.2.2.2.2.2 hk1
            rw [Int.toNat_of_nonneg h0] at h2
            rw [h2]
            show _ = false
            by_cases h3 : oa ≤ z
            · rw [decide_eq_false (show ¬ z ≤ ob by omega), Bool.and_false]
            · rw [decide_eq_false h3, Bool.false_and]
        subst hk1
        by_cases hab : oa ≤ ob
        · as_aux_lemma =>
          have da : decide (ob < oa) = false := decide_eq_false (by omega)
          go_wp2
          exact ⟨⟨k + 1, a', S', by omega, by go_num, HMz⟩, by simp [intOf]; omega⟩
        as_aux_lemma =>
        have da : decide (ob < oa) = true := decide_eq_true (by omega)
        have hp0 : p.2 = [] := by rcases hq with h | h; · omega
                                  · exact h
        obtain ⟨xa, xn, xc, tb1, z1, z2, z3, _⟩ := (HMi.out.reg _ _ HC.out.2.2.2.2.2.1).out
        have c0 : wr.cell? ⟨p.1, 0, none⟩ = some (.slice xa xn xc) := z1.cell 0
        obtain ⟨g', off', e1, ce⟩ := (HC.out.2.2.2.2.2.2.mild (by decide) HMi.out).cell (i := 0) (by omega)
        cases e1
        rw [Nat.add_zero] at ce
        have ce' : wr.cell? ⟨gp, offp, none⟩ = some (.pointer (some ⟨p.1, 0, none⟩)) := ce
        have HE := hid (isEmpty_walk xa xn xc p.2 wr z2)
        rw [hp0] at HE
        clear ce z1 z2 z3
        go_wp2_with fail
        refine HE.out.mono ?_
        rintro e wE ⟨rfl, hbE⟩
        have HMe := hid (HMz.out.below hbE)
        clear hbE
        go_wp2
        exact ⟨⟨k + 1, a', S', by omega, by go_num, HMe⟩, by simp [intOf]; omega⟩
    as_aux_lemma =>
    have dk : decide ((k : Int) < (n : Int)) = false := decide_eq_false (by omega)
    go_wp2
    go_ret
    exact ⟨rfl, HM.out.bel⟩
end Go.Proofs.Qxb6500884a
