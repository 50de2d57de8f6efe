/- sameHeap. -/
import Derived.Test.Qxb6500889aDoorMuS1
import Derived.Test.Qxb6500889aDoorEqA
namespace Go.Proofs.Qxb6500889aDoor
open Go.RowKit
set_option linter.unusedSimpArgs false
set_option linter.unusedVariables false
theorem perm_len {E F : List Ent} (hE : (E.map (·.k)).Nodup) (hF : (F.map (·.k)).Nodup) (h : ∀ a, (∃ e ∈ E, e.k = a) ↔ (∃ e ∈ F, e.k = a)) : E.length = F.length := by
  have hp : (E.map (·.k)).Perm (F.map (·.k)) := (List.perm_ext_iff_of_nodup hE hF).2 (fun a => by
    simp only [List.mem_map]
    exact h a)
  have := hp.length_eq
  simpa using this
theorem neq_run (b0 b1 b2 b3 : Bool) (w : World) : (binOp .neq 82 (.agg #[.bool b0, .bool b1, .bool b2, .bool b3]) (.agg #[.bool b0, .bool b1, .bool b2, .bool b3])).run Tryd.prog w = .ok (.bool false) w := by
  cases b0 <;> cases b1 <;> cases b2 <;> cases b3 <;> kernel_rfl
/-- Two heaps of one plain state, read only. -/
structure SH (w : World) (ρ1 ρ2 : Rl) (L1 L2 : HL) (H : HS) (wz : World) : Prop where
  a : HM wz ρ1 L1 H
  b : HM wz ρ2 L2 H
  bel : Below w.heap.size w wz
section
variable {w wz w' : World} {ρ1 ρ2 : Rl} {L1 L2 : HL} {H : HS}
theorem SH.below (h : SH w ρ1 ρ2 L1 L2 H wz) (hb : Below wz.heap.size wz w') : SH w ρ1 ρ2 L1 L2 H w' := ⟨h.a.below hb, h.b.below hb, h.bel.trans (hb.mono h.bel.size)⟩
theorem HM.flags (h : HM w ρ1 L1 H) : w.cell? ⟨L1.hB, 6, none⟩ = some (.bool (H.run 0)) ∧ w.cell? ⟨L1.hB, 7, none⟩ = some (.bool (H.run 1)) ∧ w.cell? ⟨L1.hB, 8, none⟩ = some (.bool (H.run 2)) ∧ w.cell? ⟨L1.hB, 9, none⟩ = some (.bool (H.run 3)) := ⟨h.hb.cell 6, h.hb.cell 7, h.hb.cell 8, h.hb.cell 9⟩
set_option maxRecDepth 1000000 in
set_option maxHeartbeats 8000000 in
theorem sameHeap_walk (hA : HM w ρ1 L1 H) (hB : HM w ρ2 L2 H) (hrl : ∀ m, m < 4 → (H.roots m).length ≤ 64) (hwf : Wf H) :
    Calls Tryd.prog 13 #[.pointer (some ⟨L1.hB, 0, none⟩), .pointer (some ⟨L2.hB, 0, none⟩)] w fun e w' => e = .returned (.bool true) ∧ Below w.heap.size w w' := by
  obtain ⟨gA, hgA⟩ : ∃ b, L1.hB = b := ⟨_, rfl⟩
  obtain ⟨gB, hgB⟩ : ∃ b, L2.hB = b := ⟨_, rfl⟩
  obtain ⟨oA, hoA⟩ : ∃ b, L1.mO = b := ⟨_, rfl⟩
  obtain ⟨oB, hoB⟩ : ∃ b, L2.mO = b := ⟨_, rfl⟩
  obtain ⟨cA, hcA⟩ : ∃ b, L1.mC = b := ⟨_, rfl⟩
  obtain ⟨cB, hcB⟩ : ∃ b, L2.mC = b := ⟨_, rfl⟩
  obtain ⟨tA, htA⟩ : ∃ b, L1.tB = b := ⟨_, rfl⟩
  obtain ⟨tB, htB⟩ : ∃ b, L2.tB = b := ⟨_, rfl⟩
  have HN := hid (And.intro hgA (And.intro hgB (And.intro hoA (And.intro hoB (And.intro hcA (And.intro hcB (And.intro htA htB)))))))
  have HSH : Hid (SH w ρ1 ρ2 L1 L2 H w) := hid ⟨hA, hB, Below.refl _ _⟩
  obtain ⟨EA, pA, pA2, pA3⟩ := hA.mo
  obtain ⟨EB, pB, pB2, pB3⟩ := hB.mo
  obtain ⟨FA, qA, qA2, qA3⟩ := hA.mc
  obtain ⟨FB', qB, qB2, qB3⟩ := hB.mc
  have HlO : Hid (EA.length = EB.length) := hid (perm_len pA.nek pB.nek (fun a => (pA3 a).trans (pB3 a).symm))
  have HlC : Hid (FA.length = FB'.length) := hid (perm_len qA.nek qB.nek (fun a => (qA3 a).trans (qB3 a).symm))
  rw [hoA] at pA
  rw [hoB] at pB
  rw [hcA] at qA
  rw [hcB] at qB
  obtain ⟨no, hno⟩ : ∃ n, EA.length = n := ⟨_, rfl⟩
  obtain ⟨nc, hnc⟩ : ∃ n, FA.length = n := ⟨_, rfl⟩
  have HPn := hid (And.intro pA (And.intro pB (And.intro qA qB)))
  have HEA : Hid (∀ e ∈ EA, e.v = .pointer (some ⟨L1.ob e.k, 0, none⟩) ∧ ∃ x, H.objs e.k = some x) := hid (fun e he => ⟨pA2 e he, Option.isSome_iff_exists.1 ((pA3 e.k).1 ⟨e, he, rfl⟩)⟩)
  have HLen : Hid (∀ wz, Below w.heap.size w wz → (∀ ty, (Builtin.len_ #[78] ty #[.map (some oA)]).run Tryd.prog wz = .ok (.int .i64 (no : Int)) wz) ∧ (∀ ty, (Builtin.len_ #[78] ty #[.map (some oB)]).run Tryd.prog wz = .ok (.int .i64 (no : Int)) wz) ∧ (∀ ty, (Builtin.len_ #[83] ty #[.map (some cA)]).run Tryd.prog wz = .ok (.int .i64 (nc : Int)) wz) ∧ (∀ ty, (Builtin.len_ #[83] ty #[.map (some cB)]).run Tryd.prog wz = .ok (.int .i64 (nc : Int)) wz)) := hid (fun wz hz => by
    refine ⟨fun ty => ?_, fun ty => ?_, fun ty => ?_, fun ty => ?_⟩
    · rw [← hno]; exact (HPn.out.1.below hz).len (P := Tryd.prog) Tryd.underlying78 ty
    · rw [← hno, HlO.out]; exact (HPn.out.2.1.below hz).len (P := Tryd.prog) Tryd.underlying78 ty
    · rw [← hnc]; exact (HPn.out.2.2.1.below hz).len (P := Tryd.prog) Tryd.underlying83 ty
    · rw [← hnc, HlC.out]; exact (HPn.out.2.2.2.below hz).len (P := Tryd.prog) Tryd.underlying83 ty)
  have HC : Hid (∀ wz, Below w.heap.size w wz → wz.cell? ⟨gA, 0, none⟩ = some (.map (some oA)) ∧ wz.cell? ⟨gB, 0, none⟩ = some (.map (some oB)) ∧ wz.cell? ⟨gA, 10, none⟩ = some (.map (some cA)) ∧ wz.cell? ⟨gB, 10, none⟩ = some (.map (some cB)) ∧ wz.cell? ⟨gA, 1, none⟩ = some (.slice (some ⟨tA, 0, none⟩) 32768 32768) ∧ wz.cell? ⟨gB, 1, none⟩ = some (.slice (some ⟨tB, 0, none⟩) 32768 32768)) := hid (fun wz hz => by
    have h1 := (HSH.out.below hz).a.cells
    have h2 := (HSH.out.below hz).b.cells
    rw [hgA, hoA, htA, hcA] at h1
    rw [hgB, hoB, htB, hcB] at h2
    exact ⟨h1.1, h2.1, h1.2.2, h2.2.2, h1.2.1, h2.2.1⟩)
  obtain ⟨b0, hb0⟩ : ∃ b, H.run 0 = b := ⟨_, rfl⟩
  obtain ⟨b1, hb1⟩ : ∃ b, H.run 1 = b := ⟨_, rfl⟩
  obtain ⟨b2, hb2⟩ : ∃ b, H.run 2 = b := ⟨_, rfl⟩
  obtain ⟨b3, hb3⟩ : ∃ b, H.run 3 = b := ⟨_, rfl⟩
  have HFl : Hid (∀ wz, Below w.heap.size w wz → (wz.cell? ⟨gA, 6, none⟩ = some (.bool b0) ∧ wz.cell? ⟨gA, 7, none⟩ = some (.bool b1) ∧ wz.cell? ⟨gA, 8, none⟩ = some (.bool b2) ∧ wz.cell? ⟨gA, 9, none⟩ = some (.bool b3)) ∧ (wz.cell? ⟨gB, 6, none⟩ = some (.bool b0) ∧ wz.cell? ⟨gB, 7, none⟩ = some (.bool b1) ∧ wz.cell? ⟨gB, 8, none⟩ = some (.bool b2) ∧ wz.cell? ⟨gB, 9, none⟩ = some (.bool b3))) := hid (fun wz hz => by
    have h1 := (HSH.out.below hz).a.flags
    have h2 := (HSH.out.below hz).b.flags
    rw [hb0, hb1, hb2, hb3, hgA] at h1
    rw [hb0, hb1, hb2, hb3, hgB] at h2
    exact ⟨h1, h2⟩)
  have Hrl := hid hrl
  have HWf := hid hwf
  rw [hgA, hgB]
  clear hA hB hrl hwf hgA hgB hoA hoB hcA hcB htA htB pA pA2 pA3 pB pB2 pB3 qA qA2 qA3 qB qB2 qB3 hno hnc hb0 hb1 hb2 hb3
  go_enter Tryd.func13, Tryd.ntmps13
  go_upto_region 1 with fail
  refine wp_region_heavy (fun wz => Below w.heap.size w wz) 35 (List.range 35) [] rfl (by kernel_rfl) (by kernel_rfl) (fun d _ _ _ _ h => by cases d <;> exact h) (Drew.below ⟨1, rfl⟩ _) ?_
  apply Exists.intro
  refine ⟨?_, ?_⟩
  · intro W hW
    have d0 : ∀ x, (W x).cell? ⟨gA, 0, none⟩ = some (.map (some oA)) := fun x => (HC.out _ (hW x)).1
    have d1 : ∀ x, (W x).cell? ⟨gB, 0, none⟩ = some (.map (some oB)) := fun x => (HC.out _ (hW x)).2.1
    have d2 : ∀ x, (W x).cell? ⟨gA, 10, none⟩ = some (.map (some cA)) := fun x => (HC.out _ (hW x)).2.2.1
    have d3 : ∀ x, (W x).cell? ⟨gB, 10, none⟩ = some (.map (some cB)) := fun x => (HC.out _ (hW x)).2.2.2.1
    have e0 : ∀ x, (W x).cell? ⟨gA, 6, none⟩ = some (.bool b0) := fun x => (HFl.out _ (hW x)).1.1
    have e1 : ∀ x, (W x).cell? ⟨gA, 7, none⟩ = some (.bool b1) := fun x => (HFl.out _ (hW x)).1.2.1
    have e2 : ∀ x, (W x).cell? ⟨gA, 8, none⟩ = some (.bool b2) := fun x => (HFl.out _ (hW x)).1.2.2.1
    have e3 : ∀ x, (W x).cell? ⟨gA, 9, none⟩ = some (.bool b3) := fun x => (HFl.out _ (hW x)).1.2.2.2
    have e4 : ∀ x, (W x).cell? ⟨gB, 6, none⟩ = some (.bool b0) := fun x => (HFl.out _ (hW x)).2.1
    have e5 : ∀ x, (W x).cell? ⟨gB, 7, none⟩ = some (.bool b1) := fun x => (HFl.out _ (hW x)).2.2.1
    have e6 : ∀ x, (W x).cell? ⟨gB, 8, none⟩ = some (.bool b2) := fun x => (HFl.out _ (hW x)).2.2.2.1
    have e7 : ∀ x, (W x).cell? ⟨gB, 9, none⟩ = some (.bool b3) := fun x => (HFl.out _ (hW x)).2.2.2.2
    have l0 : ∀ x ty, (Builtin.len_ #[78] ty #[.map (some oA)]).run Tryd.prog (W x) = .ok (.int .i64 (no : Int)) (W x) := fun x ty => (HLen.out _ (hW x)).1 ty
    have l1 : ∀ x ty, (Builtin.len_ #[78] ty #[.map (some oB)]).run Tryd.prog (W x) = .ok (.int .i64 (no : Int)) (W x) := fun x ty => (HLen.out _ (hW x)).2.1 ty
    have l2 : ∀ x ty, (Builtin.len_ #[83] ty #[.map (some cA)]).run Tryd.prog (W x) = .ok (.int .i64 (nc : Int)) (W x) := fun x ty => (HLen.out _ (hW x)).2.2.1 ty
    have l3 : ∀ x ty, (Builtin.len_ #[83] ty #[.map (some cB)]).run Tryd.prog (W x) = .ok (.int .i64 (nc : Int)) (W x) := fun x ty => (HLen.out _ (hW x)).2.2.2 ty
    have nr := fun w => neq_run b0 b1 b2 b3 w
    clear hW
    simp only [List.range, List.range.loop, List.take, opsAt, List.drop, List.cons_append, List.nil_append]
    repeat (go_big_quiet_step (fail))
    exact rfl
  simp only [List.take, List.drop, opsAt, List.cons_append, List.nil_append, wpHv, QN]
  have HB0 : Hid (Below w.heap.size w w.drew) := hid (Drew.below ⟨1, rfl⟩ _)
  generalize w.drew = wd at HB0 ⊢
  obtain ⟨r, hr⟩ : ∃ r, wd.heap.size = r := ⟨_, rfl⟩
  have cO := (HC.out _ HB0.out).1
  have HPd := hid (HPn.out.1.below HB0.out)
  go_wp2_with (at_range; refine wpList_range_pn rfl (.tmp 52) 78 rfl Tryd.underlying78 oA EA rfl HPd.out ?_; intro w2 hit2 hbe2 hsz2)
  go_frame
  have HB2 : Hid (Below w.heap.size w w2) := hid (HB0.out.trans (hbe2.mono HB0.out.size))
  have HI2 : Hid (IT w2 r oA EA (EA.map (·.k))) := hid (by rw [← hr]; exact hit2)
  have Hrw : Hid (w.heap.size ≤ r) := hid (by rw [← hr]; exact HB0.out.size)
  simp only [hr]
  clear hit2 hbe2 hsz2 cO HB0 HPd hr
  go_loopw [] (fun wr => ∃ Tq, Hid (Below w.heap.size w wr) ∧ Hid (IT wr r oA EA Tq)) (fun wr => World.rangeLeft wr oA r)
  case atStart => exact ⟨_, HB2, HI2⟩
  case round =>
  clear HB2 HI2
  obtain ⟨Tq, HB, HIt⟩ := hrel
  go_upto_region 4 with fail
  refine wp_region_lit ?_
  refine wpList_next_pn rfl (.tmp 53) rfl r oA EA Tq rfl (HPn.out.1.below HB.out) HIt.out ?_ ?_
  · as_aux_lemma =>
    intro hT
    clear HIt
    go_frame
    have HTk : Hid (∀ j, j < 32768 → ∃ v : Bool, ∀ wq, Below w.heap.size w wq → wq.cell? ⟨tA, j, none⟩ = some (.bool v) ∧ wq.cell? ⟨tB, j, none⟩ = some (.bool v)) := hid (fun j hj => ⟨H.taken j, fun wq hq => by
      have h1 := (HSH.out.below hq).a.tk
      have h2 := (HSH.out.below hq).b.tk
      rw [HN.out.2.2.2.2.2.2.1] at h1
      rw [HN.out.2.2.2.2.2.2.2] at h2
      exact ⟨by rw [h1.cell]; exact tkC_get _ hj, by rw [h2.cell]; exact tkC_get _ hj⟩⟩)
    have HRt : Hid (∀ m, m < 4 → ∃ a1 k1 a2 k2 n, n ≤ 64 ∧ (∀ wq, Below w.heap.size w wq → wq.cell? ⟨gA, 2 + m, none⟩ = some (.slice a1 n k1) ∧ wq.cell? ⟨gB, 2 + m, none⟩ = some (.slice a2 n k2)) ∧ ∀ j, j < n → ∃ g1 g2, a1 = some ⟨g1, 0, none⟩ ∧ a2 = some ⟨g2, 0, none⟩ ∧ ∃ v : Nat, ∀ wq, Below w.heap.size w wq → wq.cell? ⟨g1, j, none⟩ = some (.int .u64 (v : Int)) ∧ wq.cell? ⟨g2, j, none⟩ = some (.int .u64 (v : Int))) := hid (fun m hm => by
      obtain ⟨a1, k1, e1⟩ := (HSH.out.a.rt m hm).shape
      obtain ⟨a2, k2, e2⟩ := (HSH.out.b.rt m hm).shape
      refine ⟨a1, k1, a2, k2, (H.roots m).length, Hrl.out m hm, fun wq hq => ?_, fun j hj => ?_⟩
      · have h1 := (HSH.out.below hq).a.rcell hm
        have h2 := (HSH.out.below hq).b.rcell hm
        rw [HN.out.1, e1] at h1
        rw [HN.out.2.1, e2] at h2
        exact ⟨h1, h2⟩
      · have hg := List.getElem?_eq_getElem hj
        obtain ⟨g1, q1, f1, _⟩ := (HSH.out.a.rt m hm).get hg
        obtain ⟨g2, q2, f2, _⟩ := (HSH.out.b.rt m hm).get hg
        rw [e1] at f1
        rw [e2] at f2
        injection f1 with f1
        injection f2 with f2
        refine ⟨g1, g2, f1, f2, (H.roots m)[j], fun wq hq => ?_⟩
        obtain ⟨g3, q3, f3, f4⟩ := ((HSH.out.below hq).a.rt m hm).get hg
        obtain ⟨g5, q5, f5, f6⟩ := ((HSH.out.below hq).b.rt m hm).get hg
        rw [e1, f1] at f3
        rw [e2, f2] at f5
        injection f3 with f3
        injection f5 with f5
        injection f3 with f3
        injection f5 with f5
        injection f3 with f3
        injection f5 with f5
        rw [f3, f5]
        exact ⟨f4, f6⟩)
    have qT := (HC.out _ HB.out).2.2.2.2.1
    clear HLen HFl HEA HPn Hrl HWf hT
    go_wp2_with fail
    clear qT
    go_loopw [164] (fun v wq => ∃ j : Nat, j ≤ 32768 ∧ v = .int .i64 (j : Int) ∧ Hid (Below w.heap.size w wq)) (fun v _ => 32768 - (intOf v).toNat)
    case atStart => exact ⟨0, by omega, rfl, HB⟩
    case round =>
      clear HB
      obtain ⟨j, hj, rfl, HB⟩ := hrel
      by_cases hlt : j < 32768
      · as_aux_lemma =>
        have dj : decide ((j : Int) < 32768) = true := decide_eq_true (by omega)
        have ij : (j : Int) < 32768 := by omega
        obtain ⟨v, hv⟩ := HTk.out j hlt
        have HV := hid hv
        clear hv
        go_upto_region 24 with fail
        refine wp_region_heavy (fun wz => Below w.heap.size w wz) 15 [0, 1, 2, 3, 4, 5, 6, 7, 8, 9, 10, 11, 12, 13, 14] [] rfl (by kernel_rfl) (by kernel_rfl) (fun d _ _ _ _ h => by cases d <;> exact h) (HB.out.trans (Drew.below ⟨1, rfl⟩ _)) ?_
        apply Exists.intro
        refine ⟨?_, ?_⟩
        · intro W hW
          have d0 : ∀ x, (W x).cell? ⟨gA, 1, none⟩ = some (.slice (some ⟨tA, 0, none⟩) 32768 32768) := fun x => (HC.out _ (hW x)).2.2.2.2.1
          have d2 : ∀ x, (W x).cell? ⟨gB, 1, none⟩ = some (.slice (some ⟨tB, 0, none⟩) 32768 32768) := fun x => (HC.out _ (hW x)).2.2.2.2.2
          have d6 : ∀ x, (W x).cell? ⟨tA, j, none⟩ = some (.bool v) := fun x => (HV.out _ (hW x)).1
          have d7 : ∀ x, (W x).cell? ⟨tB, j, none⟩ = some (.bool v) := fun x => (HV.out _ (hW x)).2
          clear hW
          simp only [List.take, opsAt, List.drop, List.cons_append, List.nil_append]
          repeat (go_big_quiet_step (fail))
          exact rfl
        simp only [List.take, List.drop, opsAt, List.cons_append, List.nil_append, wpHv, QN]
        have HB2 : Hid (Below w.heap.size w wr.drew) := hid (HB.out.trans (Drew.below ⟨1, rfl⟩ _))
        generalize wr.drew = wy2 at HB2 ⊢
        have hvv : (v != v) = false := by cases v <;> rfl
        go_wp2
        exact ⟨⟨j + 1, by omega, by go_num, HB2⟩, by simp [intOf]; omega⟩
      · as_aux_lemma =>
        obtain rfl : j = 32768 := by omega
        rw [show ((32768 : Nat) : Int) = 32768 from rfl]
        go_wp2_with fail
        go_loopw [183] (fun v wq => ∃ m : Nat, m ≤ 4 ∧ v = .int .i64 (m : Int) ∧ Hid (Below w.heap.size w wq)) (fun v _ => 4 - (intOf v).toNat)
        case atStart => exact ⟨0, by omega, rfl, HB⟩
        case round =>
          clear HB
          obtain ⟨m, hm, rfl, HB⟩ := hrel
          by_cases hm4 : m < 4
          · as_aux_lemma =>
            have dm : decide ((m : Int) < 4) = true := decide_eq_true (by omega)
            have im : (m : Int) < 4 := by omega
            obtain ⟨a1, k1, a2, k2, nn, hnn, hcc, hel⟩ := HRt.out m hm4
            have HCC := hid hcc
            have HEl := hid hel
            clear hcc hel
            go_upto_region 30 with fail
            refine wp_region_heavy (fun wz => Below w.heap.size w wz) 15 [0, 1, 2, 3, 4, 5, 6, 7, 8, 9, 10, 11, 12, 13, 14] [] rfl (by kernel_rfl) (by kernel_rfl) (fun d _ _ _ _ h => by cases d <;> exact h) (HB.out.trans (Drew.below ⟨1, rfl⟩ _)) ?_
            apply Exists.intro
            refine ⟨?_, ?_⟩
            · intro W hW
              have d0 : ∀ x, (W x).cell? ⟨gA, 2 + m, none⟩ = some (.slice a1 nn k1) := fun x => (HCC.out _ (hW x)).1
              have d2 : ∀ x, (W x).cell? ⟨gB, 2 + m, none⟩ = some (.slice a2 nn k2) := fun x => (HCC.out _ (hW x)).2
              clear hW
              simp only [List.take, opsAt, List.drop, List.cons_append, List.nil_append]
              repeat (go_big_quiet_step (fail))
              exact rfl
            simp only [List.take, List.drop, opsAt, List.cons_append, List.nil_append, wpHv, QN]
            have HB2 : Hid (Below w.heap.size w wr.drew) := hid (HB.out.trans (Drew.below ⟨1, rfl⟩ _))
            generalize wr.drew = wy2 at HB2 ⊢
            have q1 := (HCC.out _ HB2.out).1
            go_wp2_with fail
            clear q1
            go_loopw [208] (fun v wq => ∃ j : Nat, j ≤ nn ∧ v = .int .i64 (j : Int) ∧ Hid (Below w.heap.size w wq)) (fun v _ => nn - (intOf v).toNat)
            case atStart => exact ⟨0, by omega, rfl, HB2⟩
            case round =>
              clear HB HB2
              obtain ⟨j, hj, rfl, HB⟩ := hrel
              by_cases hjn : j < nn
              · as_aux_lemma =>
                have dj : decide ((j : Int) < (nn : Int)) = true := decide_eq_true (by omega)
                have ij : (j : Int) < (nn : Int) := by omega
                obtain ⟨g1, g2, rfl, rfl, v, hv⟩ := HEl.out j hjn
                have HV := hid hv
                clear hv
                go_upto_region 35 with fail
                refine wp_region_heavy (fun wz => Below w.heap.size w wz) 19 [0, 1, 2, 3, 4, 5, 6, 7, 8, 9, 10, 11, 12, 13, 14, 15, 16, 17, 18] [] rfl (by kernel_rfl) (by kernel_rfl) (fun d _ _ _ _ h => by cases d <;> exact h) (HB.out.trans (Drew.below ⟨1, rfl⟩ _)) ?_
                apply Exists.intro
                refine ⟨?_, ?_⟩
                · intro W hW
                  have d0 : ∀ x, (W x).cell? ⟨gA, 2 + m, none⟩ = some (.slice (some ⟨g1, 0, none⟩) nn k1) := fun x => (HCC.out _ (hW x)).1
                  have d2 : ∀ x, (W x).cell? ⟨gB, 2 + m, none⟩ = some (.slice (some ⟨g2, 0, none⟩) nn k2) := fun x => (HCC.out _ (hW x)).2
                  have d6 : ∀ x, (W x).cell? ⟨g1, j, none⟩ = some (.int .u64 (v : Int)) := fun x => (HV.out _ (hW x)).1
                  have d7 : ∀ x, (W x).cell? ⟨g2, j, none⟩ = some (.int .u64 (v : Int)) := fun x => (HV.out _ (hW x)).2
                  clear hW
                  simp only [List.take, opsAt, List.drop, List.cons_append, List.nil_append]
                  repeat (go_big_quiet_step (fail))
                  exact rfl
                simp only [List.take, List.drop, opsAt, List.cons_append, List.nil_append, wpHv, QN]
                have HB2 : Hid (Below w.heap.size w wr.drew) := hid (HB.out.trans (Drew.below ⟨1, rfl⟩ _))
                generalize wr.drew = wy2 at HB2 ⊢
                go_wp2
                exact ⟨⟨j + 1, by omega, by go_num, HB2⟩, by simp [intOf]; omega⟩
              · as_aux_lemma =>
                have dj : decide ((j : Int) < (nn : Int)) = false := decide_eq_false (by omega)
                go_wp2
                exact ⟨⟨m + 1, by omega, by go_num, HB⟩, by simp [intOf]; omega⟩
          · as_aux_lemma =>
            obtain rfl : m = 4 := by omega
            go_wp2
            go_ret
            exact ⟨rfl, HB.out⟩
  · as_aux_lemma =>
    intro e wz he hkT hpz hiz huz hsz hent
    obtain ⟨w0, hw0⟩ : ∃ x, x = wr := ⟨_, rfl⟩
    subst hw0
    have hbz : Below w.heap.size w wz := HB.out.trans (huz.below Hrw.out HB.out.size)
    have Hleft : Hid (World.rangeLeft wz oA r < World.rangeLeft w0 oA r) := hid (by
      rw [hiz.left, HIt.out.left]
      exact left_less he hkT)
    have HIz := hid hiz
    have HBz := hid hbz
    obtain ⟨hev, x, hx⟩ := HEA.out e he
    obtain ⟨a, ha⟩ : ∃ a, e.k = a := ⟨_, rfl⟩
    rw [ha] at hev hx hent ⊢
    obtain ⟨pA, hpA⟩ : ∃ b, L1.ob a = b := ⟨_, rfl⟩
    obtain ⟨pB, hpB⟩ : ∃ b, L2.ob a = b := ⟨_, rfl⟩
    obtain ⟨rA, hrA⟩ : ∃ b, L1.rb a = b := ⟨_, rfl⟩
    obtain ⟨rB, hrB⟩ : ∃ b, L2.rb a = b := ⟨_, rfl⟩
    obtain ⟨dA, hdA⟩ : ∃ b, L1.db a = b := ⟨_, rfl⟩
    obtain ⟨dB, hdB⟩ : ∃ b, L2.db a = b := ⟨_, rfl⟩
    obtain ⟨nr, hnr⟩ : ∃ n, x.refs.length = n := ⟨_, rfl⟩
    obtain ⟨nd, hnd⟩ : ∃ n, x.data.length = n := ⟨_, rfl⟩
    obtain ⟨bc, hbc⟩ : ∃ b, H.cond a = b := ⟨_, rfl⟩
    have HOb : Hid (∀ wq, Below w.heap.size w wq → (wq.cell? ⟨pA, 0, none⟩ = some (.slice (some ⟨rA, 0, none⟩) nr nr) ∧ wq.cell? ⟨pA, 1, none⟩ = some (.slice (some ⟨dA, 0, none⟩) nd nd)) ∧ (wq.cell? ⟨pB, 0, none⟩ = some (.slice (some ⟨rB, 0, none⟩) nr nr) ∧ wq.cell? ⟨pB, 1, none⟩ = some (.slice (some ⟨dB, 0, none⟩) nd nd))) := hid (fun wq hq => by
      have h1 := ((HSH.out.below hq).a.o a x hx).o
      have h2 := ((HSH.out.below hq).b.o a x hx).o
      rw [hpA, hrA, hdA, hnr, hnd] at h1
      rw [hpB, hrB, hdB, hnr, hnd] at h2
      exact ⟨⟨h1.cell 0, h1.cell 1⟩, ⟨h2.cell 0, h2.cell 1⟩⟩)
    have HRf : Hid (∀ j, j < nr → ∃ v : Nat, ∀ wq, Below w.heap.size w wq → wq.cell? ⟨rA, j, none⟩ = some (.int .u64 (v : Int)) ∧ wq.cell? ⟨rB, j, none⟩ = some (.int .u64 (v : Int))) := hid (fun j hj => by
      have hj' : j < x.refs.length := by omega
      refine ⟨x.refs[j], fun wq hq => ?_⟩
      have h1 := ((HSH.out.below hq).a.o a x hx).r
      have h2 := ((HSH.out.below hq).b.o a x hx).r
      rw [hrA] at h1
      rw [hrB] at h2
      exact ⟨by rw [h1.cell]; exact aC_get (List.getElem?_eq_getElem hj'), by rw [h2.cell]; exact aC_get (List.getElem?_eq_getElem hj')⟩)
    have HDf : Hid (∀ j, j < nd → ∃ v : Nat, ∀ wq, Below w.heap.size w wq → wq.cell? ⟨dA, j, none⟩ = some (.int .u64 (v : Int)) ∧ wq.cell? ⟨dB, j, none⟩ = some (.int .u64 (v : Int))) := hid (fun j hj => by
      have hj' : j < x.data.length := by omega
      refine ⟨x.data[j], fun wq hq => ?_⟩
      have h1 := ((HSH.out.below hq).a.o a x hx).d
      have h2 := ((HSH.out.below hq).b.o a x hx).d
      rw [hdA] at h1
      rw [hdB] at h2
      exact ⟨by rw [h1.cell]; exact aC_get (List.getElem?_eq_getElem hj'), by rw [h2.cell]; exact aC_get (List.getElem?_eq_getElem hj')⟩)
    have hsz9 := (HSH.out.a.o a x hx).sz
    have hlt9 : nr ≤ 8192 ∧ nd ≤ 8192 := by omega
    have hlo : (Instr.lookup 78 (.map (some oB)) (.int .u64 (a : Int)) true).run Tryd.prog wz = .ok (.tuple #[.pointer (some ⟨pB, 0, none⟩), .bool true]) wz := by
      have := (HSH.out.below hbz).b.lookT hx
      rw [HN.out.2.2.2.1, hpB] at this
      exact this
    have HLc : Hid (∀ wq, Below w.heap.size w wq → (Instr.lookup 83 (.map (some cA)) (.int .u64 (a : Int)) false).run Tryd.prog wq = .ok (.bool bc) wq ∧ (Instr.lookup 83 (.map (some cB)) (.int .u64 (a : Int)) false).run Tryd.prog wq = .ok (.bool bc) wq) := hid (fun wq hq => by
      have h1 := (HSH.out.below hq).a.lookC a
      have h2 := (HSH.out.below hq).b.lookC a
      rw [HN.out.2.2.2.2.1, hbc] at h1
      rw [HN.out.2.2.2.2.2.1, hbc] at h2
      exact ⟨h1, h2⟩)
    have cB0 := (HC.out _ hbz).2.1
    rw [hpA] at hev
    rw [hev] at hent ⊢
    have i1 : (nr : Int) ≤ 8192 := by omega
    have i2 : (nd : Int) ≤ 8192 := by omega
    have hu : Nat := 0
    clear hbz hx hev ha hpA hpB hrA hrB hdA hdB hnr hnd hbc hiz hpz huz hsz he hkT HIt HB hsz9 hlt9 HLen HFl HEA hu
    go_frame
    go_upto_region 7 with fail
    refine wp_region_heavy (fun wz => Below w.heap.size w wz) 43 [0, 1, 2, 3, 4, 5, 6, 7, 8, 9, 10, 11, 12, 13, 14, 15, 16, 17, 18, 19, 20, 21, 22, 23, 24, 25, 26, 27, 28, 29, 30, 31, 32, 33, 34, 35, 36, 37, 38, 39, 40, 41, 42] [] rfl (by kernel_rfl) (by kernel_rfl) (fun d _ _ _ _ h => by cases d <;> exact h) (HBz.out.trans (Drew.below ⟨1, rfl⟩ _)) ?_
    apply Exists.intro
    refine ⟨?_, ?_⟩
    · intro W hW
      have d0 : ∀ x, (W x).cell? ⟨pA, 0, none⟩ = some (.slice (some ⟨rA, 0, none⟩) nr nr) := fun x => (HOb.out _ (hW x)).1.1
      have d1 : ∀ x, (W x).cell? ⟨pA, 1, none⟩ = some (.slice (some ⟨dA, 0, none⟩) nd nd) := fun x => (HOb.out _ (hW x)).1.2
      have d2 : ∀ x, (W x).cell? ⟨pB, 0, none⟩ = some (.slice (some ⟨rB, 0, none⟩) nr nr) := fun x => (HOb.out _ (hW x)).2.1
      have d3 : ∀ x, (W x).cell? ⟨pB, 1, none⟩ = some (.slice (some ⟨dB, 0, none⟩) nd nd) := fun x => (HOb.out _ (hW x)).2.2
      have d4 : ∀ x, (W x).cell? ⟨gA, 10, none⟩ = some (.map (some cA)) := fun x => (HC.out _ (hW x)).2.2.1
      have d5 : ∀ x, (W x).cell? ⟨gB, 10, none⟩ = some (.map (some cB)) := fun x => (HC.out _ (hW x)).2.2.2.1
      have d6 : ∀ x, (Instr.lookup 83 (.map (some cA)) (.int .u64 (a : Int)) false).run Tryd.prog (W x) = .ok (.bool bc) (W x) := fun x => (HLc.out _ (hW x)).1
      have d7 : ∀ x, (Instr.lookup 83 (.map (some cB)) (.int .u64 (a : Int)) false).run Tryd.prog (W x) = .ok (.bool bc) (W x) := fun x => (HLc.out _ (hW x)).2
      clear hW
      simp only [List.take, opsAt, List.drop, List.cons_append, List.nil_append]
      repeat (go_big_quiet_step (fail))
      exact rfl
    simp only [List.take, List.drop, opsAt, List.cons_append, List.nil_append, wpHv, QN]
    have HZ0 : Hid (Below wz.heap.size wz wz.drew) := hid (Drew.below ⟨1, rfl⟩ _)
    generalize wz.drew = wy at HZ0 ⊢
    have HTr : Hid (∀ wq, Below wz.heap.size wz wq → Below w.heap.size w wq) := hid (fun wq hq => HBz.out.trans (hq.mono HBz.out.size))
    have q0 := (HOb.out _ (HTr.out _ HZ0.out)).1.1
    clear hlo cB0 hent HLc
    go_wp2_with fail
    go_loopw [116] (fun v wq => ∃ j : Nat, j ≤ nr ∧ v = .int .i64 (j : Int) ∧ Hid (Below wz.heap.size wz wq)) (fun v _ => nr - (intOf v).toNat)
    case atStart => exact ⟨0, by omega, rfl, HZ0⟩
    case round =>
      clear HZ0 q0
      obtain ⟨j, hj, rfl, HZ⟩ := hrel
      by_cases hlt : j < nr
      · as_aux_lemma =>
        have dj : decide ((j : Int) < (nr : Int)) = true := decide_eq_true (by omega)
        have ij : (j : Int) < (nr : Int) := by omega
        obtain ⟨v, hv⟩ := HRf.out j hlt
        have HV := hid hv
        clear hv
        go_upto_region 12 with fail
        refine wp_region_heavy (fun wz => Below w.heap.size w wz) 15 [0, 1, 2, 3, 4, 5, 6, 7, 8, 9, 10, 11, 12, 13, 14] [] rfl (by kernel_rfl) (by kernel_rfl) (fun d _ _ _ _ h => by cases d <;> exact h) ((HTr.out _ HZ.out).trans (Drew.below ⟨1, rfl⟩ _)) ?_
        apply Exists.intro
        refine ⟨?_, ?_⟩
        · intro W hW
          have d0 : ∀ x, (W x).cell? ⟨pA, 0, none⟩ = some (.slice (some ⟨rA, 0, none⟩) nr nr) := fun x => (HOb.out _ (hW x)).1.1
          have d2 : ∀ x, (W x).cell? ⟨pB, 0, none⟩ = some (.slice (some ⟨rB, 0, none⟩) nr nr) := fun x => (HOb.out _ (hW x)).2.1
          have d6 : ∀ x, (W x).cell? ⟨rA, j, none⟩ = some (.int .u64 (v : Int)) := fun x => (HV.out _ (hW x)).1
          have d7 : ∀ x, (W x).cell? ⟨rB, j, none⟩ = some (.int .u64 (v : Int)) := fun x => (HV.out _ (hW x)).2
          clear hW
          simp only [List.take, opsAt, List.drop, List.cons_append, List.nil_append]
          repeat (go_big_quiet_step (fail))
          exact rfl
        simp only [List.take, List.drop, opsAt, List.cons_append, List.nil_append, wpHv, QN]
        have HZ2 : Hid (Below wz.heap.size wz wr.drew) := hid (HZ.out.trans (Drew.below ⟨1, rfl⟩ _))
        generalize wr.drew = wy2 at HZ2 ⊢
        go_wp2
        exact ⟨⟨j + 1, by omega, by go_num, HZ2⟩, by simp [intOf]; omega⟩
      · as_aux_lemma =>
        have dj : decide ((j : Int) < (nr : Int)) = false := decide_eq_false (by omega)
        have q0 := (HOb.out _ (HTr.out _ HZ.out)).1.2
        go_wp2_with fail
        clear q0
        go_loopw [140] (fun v wq => ∃ j : Nat, j ≤ nd ∧ v = .int .i64 (j : Int) ∧ Hid (Below wz.heap.size wz wq)) (fun v _ => nd - (intOf v).toNat)
        case atStart => exact ⟨0, by omega, rfl, HZ⟩
        case round =>
          clear HZ
          obtain ⟨j, hj, rfl, HZ⟩ := hrel
          by_cases hlt : j < nd
          · as_aux_lemma =>
            have dj : decide ((j : Int) < (nd : Int)) = true := decide_eq_true (by omega)
            have ij : (j : Int) < (nd : Int) := by omega
            obtain ⟨v, hv⟩ := HDf.out j hlt
            have HV := hid hv
            clear hv
            go_upto_region 18 with fail
            refine wp_region_heavy (fun wz => Below w.heap.size w wz) 15 [0, 1, 2, 3, 4, 5, 6, 7, 8, 9, 10, 11, 12, 13, 14] [] rfl (by kernel_rfl) (by kernel_rfl) (fun d _ _ _ _ h => by cases d <;> exact h) ((HTr.out _ HZ.out).trans (Drew.below ⟨1, rfl⟩ _)) ?_
            apply Exists.intro
            refine ⟨?_, ?_⟩
            · intro W hW
              have d0 : ∀ x, (W x).cell? ⟨pA, 1, none⟩ = some (.slice (some ⟨dA, 0, none⟩) nd nd) := fun x => (HOb.out _ (hW x)).1.2
              have d2 : ∀ x, (W x).cell? ⟨pB, 1, none⟩ = some (.slice (some ⟨dB, 0, none⟩) nd nd) := fun x => (HOb.out _ (hW x)).2.2
              have d6 : ∀ x, (W x).cell? ⟨dA, j, none⟩ = some (.int .u64 (v : Int)) := fun x => (HV.out _ (hW x)).1
              have d7 : ∀ x, (W x).cell? ⟨dB, j, none⟩ = some (.int .u64 (v : Int)) := fun x => (HV.out _ (hW x)).2
              clear hW
              simp only [List.take, opsAt, List.drop, List.cons_append, List.nil_append]
              repeat (go_big_quiet_step (fail))
              exact rfl
            simp only [List.take, List.drop, opsAt, List.cons_append, List.nil_append, wpHv, QN]
            have HZ2 : Hid (Below wz.heap.size wz wr.drew) := hid (HZ.out.trans (Drew.below ⟨1, rfl⟩ _))
            generalize wr.drew = wy2 at HZ2 ⊢
            go_wp2
            exact ⟨⟨j + 1, by omega, by go_num, HZ2⟩, by simp [intOf]; omega⟩
          · as_aux_lemma =>
            have dj : decide ((j : Int) < (nd : Int)) = false := decide_eq_false (by omega)
            have hI : IT wr r oA EA (Tq.filter fun k => decide (k ≠ e.k)) := HIz.out.of (HZ.out.block _ HIz.out.lt) (HZ.out.block _ (HPn.out.1.below HBz.out).lt)
            have Hfin : Hid ((∃ Tq, Hid (Below w.heap.size w wr) ∧ Hid (IT wr r oA EA Tq)) ∧ World.rangeLeft wr oA r < World.rangeLeft w0 oA r) := hid ⟨⟨_, hid (HTr.out _ HZ.out), hid hI⟩, by
              have e1 : World.rangeLeft wr oA r = World.rangeLeft wz oA r := by rw [hI.left, HIz.out.left]
              rw [e1]
              exact Hleft.out⟩
            clear hI
            go_wp2
            exact Hfin.out
end
end Go.Proofs.Qxb6500889aDoor
