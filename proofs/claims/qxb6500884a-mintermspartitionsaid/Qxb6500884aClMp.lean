/- MintermsPartition: the law. -/
import Derived.Test.Qxb6500884aClMpW
import Derived.Test.Qxb6500884aClLaw
import Derived.Deep.DeepCutAuto
namespace Go.Proofs.Qxb6500884a
open Go.RowKit
set_option linter.unusedSimpArgs false
set_option linter.unusedVariables false

set_option maxRecDepth 100000 in
set_option maxHeartbeats 4000000 in
theorem mintLaw_walk (a : Option Addr) (n c : Nat) (l : List COp) (w : World) (hs : Script w a n c l) :
    Calls Try.prog 5 #[.slice a n c] w fun e w' => e = .returned (.bool true) ∧ Below w.heap.size w w' := by
  have HS := hid hs
  have hl := hs.1.1
  clear hs
  go_enter Try.func5, Try.ntmps5
  go_wp2_with fail
  refine (small_walk a n c l _ HS.out).mono ?_
  rintro e w' ⟨r, rfl, rfl, hr⟩
  cases r with
  | false =>
    go_wp2
    go_ret
    exact ⟨rfl, Below.refl _ _⟩
  | true =>
  obtain ⟨hsm, hob⟩ := hr rfl
  have HOb := hid hob
  clear hr hob
  obtain ⟨mb, hmb⟩ : ∃ mb, w'.heap.size = mb := ⟨_, rfl⟩
  have HM0 := hid (MW.start w' hmb)
  go_upto_region 5 with fail
  generalize w'.alloc (.cells #[.slice none 0 0] 46) = w1 at HM0 ⊢
  have Hmb := hid hmb
  clear hmb
  go_loopw [13] (fun i wr => ∃ (k : Nat) (ma : Option Addr) (S : List (Nat × List (Int × Int))), k ≤ n ∧ i = .int .i64 k ∧ Hid (MW w' mb ma S wr)) (fun i _ => n - (intOf i).toNat)
  case atStart => exact ⟨0, none, [], Nat.zero_le _, rfl, HM0⟩
  case round =>
    clear HM0
    obtain ⟨k, ma, S, hk, rfl, HM⟩ := hrel
    by_cases hlt : k < n
    · as_aux_lemma =>
      obtain ⟨o, ho, hok, b, off, rfl, hb, c0, c1, c2, c3, c4⟩ := (HS.out.below HM.out.bel).at hlt
      have hob := HOb.out o (List.mem_of_getElem? ho)
      obtain ⟨kind, oa, ob, ia, inn, ic, iv, ra, rn, rc, rg⟩ := o
      dsimp only at c0 c1 c2 c3 c4 hob
      have HOk := hid (HS.out.2 _ (List.mem_of_getElem? ho))
      have dk : decide ((k : Int) < (n : Int)) = true := decide_eq_true (by omega)
      have i1 : (k : Int) < (n : Int) := by omega
      obtain ⟨pO, hpO⟩ : ∃ pO, wr.heap.size = pO := ⟨_, rfl⟩
      have HM2 : Hid (MW w' mb ma S (wr.alloc (.cells #[Value.int .i64 kind, .int .i64 oa, .int .i64 ob, .slice ia inn ic, .slice ra rn rc] 28)) ∧ Blk (wr.alloc (.cells #[Value.int .i64 kind, .int .i64 oa, .int .i64 ob, .slice ia inn ic, .slice ra rn rc] 28)) pO 28 [Value.int .i64 kind, .int .i64 oa, .int .i64 ob, .slice ia inn ic, .slice ra rn rc]) := hid ⟨HM.out.below (nbel wr _), by
        have := Blk.new wr [Value.int .i64 kind, .int .i64 oa, .int .i64 ob, .slice ia inn ic, .slice ra rn rc] 28
        rw [hpO] at this
        exact this⟩
      clear ho hok
      go_upto_region 7 with fail
      generalize wr.alloc (.cells #[Value.int .i64 kind, .int .i64 oa, .int .i64 ob, .slice ia inn ic, .slice ra rn rc] 28) = w2 at HM2 ⊢
      clear c0 c1 c2 c3 c4 HM dk
      have HpO := hid hpO
      clear hpO
      obtain ⟨N, hN⟩ : ∃ N, S.length = N := ⟨_, rfl⟩
      have HN := hid hN
      obtain ⟨mc, hmc, _⟩ := HM2.out.1.mach.out
      rw [hN] at hmc
      have cm : w2.cell? ⟨mb, 0, none⟩ = some (.slice ma N mc) := hmc.cell 0
      have o0 : w2.cell? ⟨pO, 0, none⟩ = some (.int .i64 kind) := HM2.out.2.cell 0
      have o4 : w2.cell? ⟨pO, 4, none⟩ = some (.slice ra rn rc) := HM2.out.2.cell 4
      obtain ⟨BI, hBI⟩ : ∃ BI, ((decide (kind = 12) || decide (kind = 22)) && decide (0 < N)) = BI := ⟨_, rfl⟩
      clear hN hmc
      go_cut [32] from 17 to 32 (fun v wc => v = .bool BI ∧ wc = w2)
      case first =>
        as_aux_lemma =>
        by_cases h0 : 0 < N
        · have dN : decide (0 < (N : Int)) = true := decide_eq_true (by omega)
          by_cases h1 : kind = 12
          · have q1 : (kind == 12) = true := by rw [h1]; rfl
            have hB2 : BI = true := by rw [← hBI, decide_eq_true h1, decide_eq_true h0]; rfl
            go_wp2
            go_meet
            case rel => exact ⟨by rw [hB2], rfl⟩
          · have q1 : (kind == 12) = false := by rw [beq_eq_false_iff_ne]; exact h1
            by_cases h2 : kind = 22
            · have q2 : (kind == 22) = true := by rw [h2]; rfl
              have hB2 : BI = true := by rw [← hBI, decide_eq_false h1, decide_eq_true h2, decide_eq_true h0]; rfl
              go_wp2
              go_meet
              case rel => exact ⟨by rw [hB2], rfl⟩
            · have q2 : (kind == 22) = false := by rw [beq_eq_false_iff_ne]; exact h2
              have hB2 : BI = false := by rw [← hBI, decide_eq_false h1, decide_eq_false h2]; rfl
              go_wp2
              go_meet
              case rel => exact ⟨by rw [hB2], rfl⟩
        · have dN : decide (0 < (N : Int)) = false := decide_eq_false (by omega)
          have hB2 : BI = false := by rw [← hBI, decide_eq_false h0, Bool.and_false]
          by_cases h1 : kind = 12
          · have q1 : (kind == 12) = true := by rw [h1]; rfl
            go_wp2
            go_meet
            case rel => exact ⟨by rw [hB2], rfl⟩
          · have q1 : (kind == 12) = false := by rw [beq_eq_false_iff_ne]; exact h1
            by_cases h2 : kind = 22
            · have q2 : (kind == 22) = true := by rw [h2]; rfl
              go_wp2
              go_meet
              case rel => exact ⟨by rw [hB2], rfl⟩
            · have q2 : (kind == 22) = false := by rw [beq_eq_false_iff_ne]; exact h2
              go_wp2
              go_meet
              case rel => exact ⟨by rw [hB2], rfl⟩
      case rest =>
      as_aux_lemma =>
      obtain ⟨rfl, hwc⟩ := hcut
      have hwc' := hwc.symm
      clear hwc
      subst hwc'
      have h0B : BI = true → 0 < N := fun e => by rw [e] at hBI; exact of_decide_eq_true (Bool.and_eq_true_iff.1 hBI).2
      have H0B := hid h0B
      clear hBI h0B
      go_upto_if 32 with fail
      go_cut [] from 33 to 38 (fun wc => Hid (MW w' mb ma S wc ∧ Blk wc pO 28 [Value.int .i64 kind, .int .i64 oa, .int .i64 ob, .slice ia inn ic, .slice ra rn rc]))
      case first =>
        as_aux_lemma =>
        cases BI with
        | false =>
          go_wp2
          go_meet
          case rel => exact HM2
        | true =>
          have h0 : 0 < S.length := by rw [HN.out]; exact H0B.out rfl
          have HFa := hid (family_walk mb ma S ra rn rc rg w2 HM2.out.1.mach h0 (HOk.out.below HM2.out.1.bel).rg hob.2)
          go_wp2_with fail
          refine HFa.out.mono ?_
          rintro e w3 ⟨gf, rfl, hgf, hbf, hb3⟩
          have hfl : (famL S rg).length = rn := by rw [famL_len]; exact HOk.out.rg.len
          have HPa := hid (partitions_walk (some ⟨gf, 0, none⟩) rn rn (famL S rg) w' w3 (Fl.made hbf (by rw [List.length_map]; exact hfl) (by have := hob.2; unfold maxLen; omega)) (fun p hp => (HM2.out.1.mach.regs p (famL_mem h0 hp)).below hb3) (fun p hp => HM2.out.1.rw p (famL_mem h0 hp)) hob.2)
          have HM3 : Hid (MW w' mb ma S w3 ∧ Blk w3 pO 28 [Value.int .i64 kind, .int .i64 oa, .int .i64 ob, .slice ia inn ic, .slice ra rn rc]) := hid ⟨HM2.out.1.below hb3, HM2.out.2.below hb3⟩
          clear hgf hbf hb3 HFa
          go_wp2_with fail
          refine HPa.out.mono ?_
          rintro e w4 ⟨rfl, hm4⟩
          have HM4 : Hid (MW w' mb ma S w4 ∧ Blk w4 pO 28 [Value.int .i64 kind, .int .i64 oa, .int .i64 ob, .slice ia inn ic, .slice ra rn rc]) := hid ⟨HM3.out.1.mild hm4, hm4.blk _ _ _ (by decide) HM3.out.2⟩
          clear hm4 HPa HM3
          go_wp2
          go_meet
          case rel => exact HM4
      case rest =>
      as_aux_lemma =>
      have HX := hcut
      clear hcut HM2 cm o0 o4
      have o0 : wc.cell? ⟨pO, 0, none⟩ = some (.int .i64 kind) := HX.out.2.cell 0
      have o1 : wc.cell? ⟨pO, 1, none⟩ = some (.int .i64 oa) := HX.out.2.cell 1
      have o2 : wc.cell? ⟨pO, 2, none⟩ = some (.int .i64 ob) := HX.out.2.cell 2
      have o3 : wc.cell? ⟨pO, 3, none⟩ = some (.slice ia inn ic) := HX.out.2.cell 3
      have o4 : wc.cell? ⟨pO, 4, none⟩ = some (.slice ra rn rc) := HX.out.2.cell 4
      have HSt := hid (step_walk mb ma S ⟨kind, oa, ob, ia, inn, ic, iv, ra, rn, rc, rg⟩ wc HX.out.1.mach (HOk.out.below HX.out.1.bel) hob.1 hob.2)
      go_wp2_with fail
      refine HSt.out.mono ?_
      rintro e w3 hp
      obtain ⟨res, pa, pn, pc, ps, a', rfl, hms⟩ := HX.out.1.step hp
      have HM3 := hid hms.mw
      clear hp hms HSt HX o0 o1 o2 o3 o4
      go_wp2
      exact ⟨⟨k + 1, a', _, by omega, by go_num, HM3⟩, by simp [intOf]; omega⟩
    as_aux_lemma =>
    have dk : decide ((k : Int) < (n : Int)) = false := decide_eq_false (by omega)
    have HPa := hid (partitions_walk none 0 0 [] w' wr (Fl.nil _ _) (fun p hp => by cases hp) (fun p hp => by cases hp) (by omega))
    go_wp2_with fail
    refine HPa.out.mono ?_
    rintro e w4 ⟨rfl, hm4⟩
    have HBe := hid (hm4.low HM.out.bel)
    clear hm4 HPa
    go_wp2
    go_ret
    exact ⟨rfl, HBe.out⟩
end Go.Proofs.Qxb6500884a
