/- closeRun. -/
import Derived.Test.Qxb6500884aClPm
import Derived.Deep.DeepCutAuto
import Derived.Laws.IdiomStrings
namespace Go.Proofs.Qxb6500884a
open Go.RowKit Go.Maps Go.WideMaps
set_option linter.unusedSimpArgs false
set_option linter.unusedVariables false

def PM (w0 : World) (A : PA) (s : List UInt8) (st : Int) (P : PSt) (w : World) : Prop := ∃ sa sc oa oc la lc LV D, PMv w0 A s st P.pats P.lists P.starts P.owner sa sc oa oc la lc LV D w
theorem lawS : Keyed Try.prog 9 := string_keyed Try.underlying9
theorem zeroI (w : World) : (zeroValue 3).run Try.prog w = .ok (.int .i64 0) w := by kernel_rfl
theorem info_ivs : ∃ i, Try.prog.info? 25 = some i ∧ i.zero = some (.slice none 0 0) ∧ i.size = 1 ∧ i.bytes = 24 := by
  have h : (Try.prog.info? 25).map (fun i => (i.zero, i.size, i.bytes)) = some (some (.slice none 0 0), 1, 24) := by kernel_rfl
  obtain ⟨i, hi, he⟩ := Option.map_eq_some_iff.1 h
  simp only [Prod.mk.injEq] at he
  exact ⟨i, hi, he.1, he.2.1, he.2.2⟩
theorem info_int : ∃ i, Try.prog.info? 3 = some i ∧ i.zero = some (.int .i64 0) ∧ i.size = 1 ∧ i.bytes = 8 := by
  have h : (Try.prog.info? 3).map (fun i => (i.zero, i.size, i.bytes)) = some (some (.int .i64 0), 1, 8) := by kernel_rfl
  obtain ⟨i, hi, he⟩ := Option.map_eq_some_iff.1 h
  simp only [Prod.mk.injEq] at he
  exact ⟨i, hi, he.1, he.2.1, he.2.2⟩
theorem lit_wf64 (x : Int) : ((Lit.int .i64 x).wf = true) = (-9223372036854775808 ≤ x ∧ x ≤ 9223372036854775807) := by
  simp [Lit.wf, IntKind.min, IntKind.max, IntKind.signed, IntKind.bits]
set_option maxRecDepth 100000 in
set_option maxHeartbeats 4000000 in
theorem close_walk (w0 : World) (A : PA) (s : List UInt8) (st en : Int) (P : PSt) (w : World) (h : PM w0 A s st P w) (hs0 : s.length ≤ 100000) (hpl : P.pats.length = P.lists.length) (hll : P.lists.length ≤ 196608) (hsl : P.starts.length = P.owner.length) (hol : P.owner.length ≤ 196608) (hrow : ∀ l ∈ P.lists, l.length ≤ 196608 ∧ ∀ p ∈ l, 0 ≤ p.2 ∧ p.2 ≤ 196607) :
    Calls Try.prog 87 #[.int .i64 en, .pointer (some ⟨A.b11, 0, none⟩), .pointer (some ⟨A.b10, 0, none⟩), .pointer (some ⟨A.b9, 0, none⟩), .pointer (some ⟨A.b12, 0, none⟩), .pointer (some ⟨A.b8, 0, none⟩)] w fun e w' => e = .returned (.tuple #[]) ∧ KeepE w w' ∧ PM w0 A s st (closeS P s st en) w' := by
  obtain ⟨sa, sc, oa, oc, la, lc, LV, D, hpm⟩ := h
  obtain ⟨b8, pb, b9, b10, gi, b11, km, b12⟩ := A
  have HPM := hid hpm
  have cK : w.cell? ⟨b11, 0, none⟩ = some (.map (some km)) := hpm.b11.cell 0
  have cI : w.cell? ⟨b10, 0, none⟩ = some (.slice (some ⟨gi, 0, none⟩) s.length s.length) := hpm.b10.cell 0
  have cL : w.cell? ⟨b9, 0, none⟩ = some (.slice la P.lists.length lc) := hpm.b9.cell 0
  have hcells : ∀ j (hj : j < s.length), w.cell? ((⟨gi, 0, none⟩ : Addr).add j) = some (.int .u8 (s[j].toNat : Int)) := fun j hj => by
    rw [Addr.add_lit, Nat.zero_add]
    have := hpm.gi.cell j
    simp only at this
    rw [this, List.getElem?_map, List.getElem?_eq_getElem hj]
    rfl
  have hcv := run_convert_bytes_back (P := Try.prog) w 119 9 5 ⟨gi, 0, none⟩ s.length s Try.underlying119 Try.underlying5 Try.underlying9 hcells
  have hkey : keyOf Try.prog 9 (.string ⟨s.toArray⟩) = some (.string s) := by
    simpa using keyOf_string_mk (P := Try.prog) Try.underlying9 (s := ⟨s.toArray⟩) (by simp [ByteArray.size]; unfold maxLen; omega)
  have HKm := hid hpm.km
  obtain ⟨b, hb⟩ : ∃ b, P.pats.idxOf s = b := ⟨_, rfl⟩
  have hble : b ≤ P.pats.length := by rw [← hb]; exact List.idxOf_le_length
  have Hb := hid hb
  obtain ⟨bx, hbx⟩ : ∃ bx : ByteArray, (⟨s.toArray⟩ : ByteArray) = bx := ⟨_, rfl⟩
  rw [hbx] at hcv hkey
  have Hkey := hid hkey
  obtain ⟨i0, hi, hz0, hz1, hz2⟩ := info_ivs
  have HI := hid (And.intro hi (And.intro hz0 (And.intro hz1 hz2)))
  obtain ⟨j0, hj, hy0, hy1, hy2⟩ := info_int
  have HJ := hid (And.intro hj (And.intro hy0 (And.intro hy1 hy2)))
  clear hpm hcells hb hkey hbx hi hz0 hz1 hz2 hj hy0 hy1 hy2
  go_enter Try.func87, Try.ntmps87
  go_upto_region 1 with (at_lookup; refine wpList_lookup_own_ok_int _ rfl _ _ 120 rfl 9 3 .i64 lawS Try.underlying120 Try.underlying3 (zeroI _) km _ D rfl HKm.out _ _ rfl Hkey.out ?_; intro c hat hwc; have Hat := hid hat; clear hat hwc)
  obtain ⟨B, hB⟩ : ∃ B, has D (Lit.string s) = B := ⟨_, rfl⟩
  try rw [hB]
  try simp only [hB]
  have HB := hid hB
  clear hB
  go_upto_if 18 with fail
  go_cut [7] (fun v7 wc => v7 = .int .i64 (b : Int) ∧ Hid (KeepE w wc) ∧ Hid (PM w0 ⟨b8, pb, b9, b10, gi, b11, km, b12⟩ s st (clSeen P s) wc))
  case first =>
    as_aux_lemma =>
    by_cases hs : s ∈ P.pats
    · have hb2 : P.pats[b]? = some s := by rw [← Hb.out, List.getElem?_eq_getElem (List.idxOf_lt_length_iff.2 hs), List.getElem_idxOf]
      obtain ⟨h1, h2⟩ := HPM.out.mok.yes s b hb2
      have hc : c = (b : Int) := by have h3 := Hat.out; rw [h2] at h3; injection h3 with h3; injection h3 with _ h3; exact h3.symm
      subst hc
      have hBt : B = true := by rw [← HB.out]; exact h1
      subst hBt
      simp only [Bool.not_true]
      go_wp2_with fail
      go_meet
      case rel => exact ⟨rfl, hid (KeepE.refl w), hid (by unfold clSeen; rw [if_pos hs]; exact ⟨sa, sc, oa, oc, la, lc, LV, D, HPM.out⟩)⟩
    · have h1 := HPM.out.mok.no s hs
      have hbe : b = P.lists.length := by rw [← Hb.out, List.idxOf_eq_length hs, hpl]
      have hwf : (Lit.int .i64 (P.lists.length : Int)).wf = true := by rw [lit_wf64]; omega
      have hbp : b = P.pats.length := by omega
      have hmx : P.pats.length < maxLen := by unfold maxLen; omega
      have HEl := hid (plainElem_int (H := Unit) Try.underlying3 hwf)
      have hBf : B = false := by rw [← HB.out]; exact h1
      subst hBf
      clear h1
      simp only [Bool.not_false]
      go_upto_region 4 with (at_mapUpdate; refine wpList_mapUpdate_own _ rfl _ _ _ 120 rfl 9 3 lawS Try.underlying120 _ km _ _ rfl HKm.out hmx _ _ _ rfl rfl Hkey.out _ [] HEl.out ?_; intro w1 hm1 hg1; have HM1 := hid hm1; have HG1 := hid hg1; clear hm1 hg1)
      have HPM1 := hid (HPM.out.putMap (t := s) hs HG1.out (by rw [hpl] at *; exact HM1.out))
      have HK1 : Hid (KeepE w w1) := hid (KeepE.ut (UT.grown HG1.out (map_at HPM.out.km)) (fun _ _ => notM) (fun _ _ => notM))
      have cL1 : w1.cell? ⟨b9, 0, none⟩ = some (.slice la P.lists.length lc) := HPM1.out.b9.cell 0
      have f1 := HPM1.out.b9.frozen 0
      clear HM1 HG1 cL cI cK hcv
      obtain ⟨g, hg⟩ : ∃ g, w1.heap.size = g := ⟨_, rfl⟩
      have hbg := Blk.new w1 [.slice none 0 0] 25
      rw [hg] at hbg
      obtain ⟨w2, hw2⟩ : ∃ w2, w1.alloc (.cells #[.slice none 0 0] 25) = w2 := ⟨_, rfl⟩
      have hw2' : w1.alloc (.cells [Value.slice none 0 0].toArray 25) = w2 := hw2
      rw [hw2'] at hbg
      have HBe2 : Hid (Below w1.heap.size w1 w2) := hid (by rw [← hw2]; exact nbel w1 _)
      have HPM2 := hid (HPM1.out.below HBe2.out)
      have HF2 := hid HPM2.out.fl
      have Hcg : Hid (w2.cell? ⟨g, 0, none⟩ = some (.slice none 0 0)) := hid (hbg.cell 0)
      have hby : (P.lists.length + 1) * 24 ≤ 140737488355328 := by omega
      clear hbg hw2'
      have HB9 := hid HPM2.out.b9
      go_wp2_with (at_builtin; (try simp only [hw2]); refine wpList_append_file rfl (.tmp 25) (.tmp 26) 118 rfl 25 i0 (.slice none 0 0) 24 Try.underlying118 HI.out.1 HI.out.2.1 HI.out.2.2.1 HI.out.2.2.2 rfl la P.lists.length lc LV rfl HF2.out g 1 (.slice none 0 0) rfl Hcg.out rfl hby (by decide) ?_; intro a5 c5 w5 hf5 hu5 hb5 hn5; have HF5 := hid hf5; have HU5 := hid hu5; have Hb5 := hid hb5; have hb9 := (HB9.out.ut (UT.updO hu5 HF2.out.ty) (notT (by decide))); have c5a := hb9.cell 0; have f5 := hb9.frozen 0; simp only [List.getElem?_cons_zero] at c5a; clear hf5 hu5 hb5 hn5 hb9)
      go_meet
      case rel =>
        refine ⟨by rw [hbe], hid ?_, hid ?_⟩
        · have k2 : KeepE w1 w2 := KeepE.below HBe2.out
          have u5 : UT (ofT 25) w2 w5 := UT.updO HU5.out HF2.out.ty
          have k5 : KeepE w2 w5 := KeepE.ut u5 (fun _ _ => notT (by decide)) (fun _ _ => notT (by decide))
          have hb9 := HB9.out.ut u5 (notT (by decide))
          exact ((HK1.out.trans k2).trans k5).trans (KeepE.ut (UT.upd ((Upd.refl b9 w5).setCell rfl _) hb9) (fun _ _ => notT (by decide)) (fun _ _ => notT (by decide)))
        · have h6 := HPM2.out.appList HF5.out HU5.out Hb5.out
          unfold clSeen
          rw [if_neg hs]
          exact ⟨_, _, _, _, _, _, _, _, h6⟩
  case rest =>
  obtain ⟨rfl, HK, HP1⟩ := hcut
  have HC : Hid (closeS P s st en = clOwn (clPut (clSeen P s) b (st, en)) b st) := hid (by unfold closeS; rw [Hb.out])
  have hf1 : (clSeen P s).starts = P.starts ∧ (clSeen P s).owner = P.owner ∧ b < (clSeen P s).lists.length ∧ (clSeen P s).lists.length ≤ 196609 ∧ ∀ l ∈ (clSeen P s).lists, l.length ≤ 196608 ∧ ∀ p ∈ l, 0 ≤ p.2 ∧ p.2 ≤ 196607 := by
    unfold clSeen
    by_cases hs : s ∈ P.pats
    · rw [if_pos hs]
      exact ⟨rfl, rfl, by rw [← hpl, ← Hb.out]; exact List.idxOf_lt_length_iff.2 hs, by omega, hrow⟩
    · rw [if_neg hs]
      refine ⟨rfl, rfl, by simp; omega, by simp; omega, fun l hl => ?_⟩
      rcases List.mem_append.1 hl with h1 | h1
      · exact hrow l h1
      · simp at h1
        subst h1
        exact ⟨by simp, fun p hp => by simp at hp⟩
  generalize clSeen P s = P1 at hf1 HP1 HC
  obtain ⟨hf1a, hf1b, hbl, hll1, hrow1⟩ := hf1
  obtain ⟨sa1, sc1, oa1, oc1, la1, lc1, LV1, D1, hv1⟩ := HP1.out
  obtain ⟨pats1, lists1, starts1, owner1⟩ := P1
  simp only at hf1a hf1b hbl hll1 hrow1 hv1
  subst hf1a
  subst hf1b
  have HV1 := hid hv1
  obtain ⟨g, off, hla⟩ : ∃ g off, la1 = some ⟨g, off, none⟩ := by
    obtain ⟨g, off, h1, _⟩ := hv1.fl.cell hbl
    exact ⟨g, off, h1⟩
  subst hla
  have hlvb : b < LV1.length := by rw [hv1.rw.len]; exact hbl
  obtain ⟨v, hv⟩ : ∃ v, LV1[b]? = some v := ⟨_, List.getElem?_eq_getElem hlvb⟩
  obtain ⟨l, hl⟩ : ∃ l, lists1[b]? = some l := ⟨_, List.getElem?_eq_getElem hbl⟩
  have hown := hv1.rw.row b v l hv hl
  obtain ⟨hln, hlr⟩ := hrow1 l (List.mem_of_getElem? hl)
  obtain ⟨va, vc, hvs⟩ := owns_shape hown
  obtain ⟨vl, hvl⟩ : ∃ vl, l.length = vl := ⟨_, rfl⟩
  rw [hvl] at hvs
  subst hvs
  have Hvl := hid hvl
  clear hvl
  have Hv := hid hv
  have Hl := hid hl
  have HOw := hid hown
  clear hv hl hown hv1 HP1 HPM HKm cK cI cL hcv Hkey Hat HB hrow hrow1
  have HV1d : Hid (PMv w0 ⟨b8, pb, b9, b10, gi, b11, km, b12⟩ s st pats1 lists1 P.starts P.owner sa1 sc1 oa1 oc1 (some ⟨g, off, none⟩) lc1 LV1 D1 wc.drew) := hid (HV1.out.below (Drew.below ⟨1, rfl⟩ _))
  have HKd : Hid (KeepE w wc.drew) := hid (HK.out.trans (KeepE.below (Drew.below ⟨1, rfl⟩ _)))
  have hbi : (b : Int) < (lists1.length : Int) := by omega
  have HS : Hid (∀ w' : World, PMv w0 ⟨b8, pb, b9, b10, gi, b11, km, b12⟩ s st pats1 lists1 P.starts P.owner sa1 sc1 oa1 oc1 (some ⟨g, off, none⟩) lc1 LV1 D1 w' → w'.cell? ⟨b9, 0, none⟩ = some (.slice (some ⟨g, off, none⟩) lists1.length lc1) ∧ w'.cell? ⟨g, off + b, none⟩ = some (.slice va vl vc) ∧ w'.cell? ⟨b12, 0, none⟩ = some (.int .i64 st)) := hid (fun w' h => ⟨h.b9.cell 0, by
    obtain ⟨g', off', h1, h2⟩ := h.fl.cell hbl
    cases h1
    rw [h2, Hv.out], h.stB.cell 0⟩)
  clear HV1 HK
  go_upto_region 5 with fail
  refine wp_region_heavy (fun w' => w'.cell? ⟨b9, 0, none⟩ = some (.slice (some ⟨g, off, none⟩) lists1.length lc1) ∧ w'.cell? ⟨g, off + b, none⟩ = some (.slice va vl vc) ∧ w'.cell? ⟨b12, 0, none⟩ = some (.int .i64 st)) 10 [0, 1, 2, 3, 4, 5, 6, 7, 8] [9] rfl (by kernel_rfl) (by kernel_rfl) (fun d _ _ _ _ h => by cases d <;> exact h) (HS.out _ HV1d.out) ?_
  apply Exists.intro
  refine ⟨?_, ?_⟩
  · intro W hW
    have d0 : ∀ x, (W x).cell? ⟨b9, 0, none⟩ = some (.slice (some ⟨g, off, none⟩) lists1.length lc1) := fun x => (hW x).1
    have d1 : ∀ x, (W x).cell? ⟨g, off + b, none⟩ = some (.slice va vl vc) := fun x => (hW x).2.1
    have d2 : ∀ x, (W x).cell? ⟨b12, 0, none⟩ = some (.int .i64 st) := fun x => (hW x).2.2
    clear hW
    simp only [List.take, opsAt, List.drop, List.cons_append, List.nil_append]
    repeat (go_big_quiet_step (fail))
    exact rfl
  simp only [List.take, List.drop, opsAt, List.cons_append, List.nil_append, wpHv]
  generalize wc.drew = w2 at HV1d HKd ⊢
  have HCall := hid (mergedO_walk w0.heap.size (.slice va vl vc) l st en w2 (HV1d.out.rw.row b _ l Hv.out Hl.out) HV1d.out.bel.size (by omega) hlr)
  go_wp2_with fail
  refine HCall.out.mono ?_
  rintro e w3 ⟨⟨v', rfl, ho3, hn3⟩, hu3⟩
  have HO3 := hid ho3
  have HN3 := hid hn3
  have HU3 := hid hu3
  have Hut : Hid (UT (ofT 67) w2 w3) := hid (UT.updO hu3 (fun k hk => (own_block (HV1d.out.rw.row b _ l Hv.out Hl.out) k hk).1))
  have HF3 := hid (HV1d.out.fl.ut Hut.out (fun _ => notT (by decide)))
  have HS3 : Hid (w3.cell? ⟨b9, 0, none⟩ = some (.slice (some ⟨g, off, none⟩) lists1.length lc1) ∧ w3.cell? ⟨g, off + b, none⟩ = some (.slice va vl vc) ∧ w3.cell? ⟨b12, 0, none⟩ = some (.int .i64 st)) := hid ⟨(HV1d.out.b9.ut Hut.out (notT (by decide))).cell 0, by
    obtain ⟨g', off', h1, h2⟩ := HF3.out.cell hbl
    cases h1
    rw [h2, Hv.out], (HV1d.out.stB.ut Hut.out (notT (by decide))).cell 0⟩
  have hfz : w3.frozen? ⟨g, off + b, none⟩ = false := by
    obtain ⟨cs, hc⟩ := HF3.out.ty g rfl
    exact hc.frozen _
  clear ho3 hn3 hu3 HCall
  go_wp2_with fail
  refine ⟨HS3.out, ?_⟩
  simp only [QN]
  obtain ⟨va', vc', hvs'⟩ := owns_shape HO3.out
  subst hvs'
  have HV4 := hid (HV1d.out.setRow rfl Hv.out HU3.out HO3.out HN3.out)
  have HK4 : Hid (KeepE w (w3.setCell ⟨g, off + b, none⟩ (.slice va' (mnext l (st, en)).length vc'))) := hid (by
    obtain ⟨cs, hc⟩ := HF3.out.ty g rfl
    exact (HKd.out.trans (KeepE.ut Hut.out (fun _ _ => notT (by decide)) (fun _ _ => notT (by decide)))).trans (KeepE.ut (UT.upd ((Upd.refl g w3).setCell rfl _) hc) (fun _ _ => notT (by decide)) (fun _ _ => notT (by decide))))
  have c3 := HS3.out.2.1
  have HC2 : Hid (clPut ⟨pats1, lists1, P.starts, P.owner⟩ b (st, en) = ⟨pats1, lists1.set b (mnext l (st, en)), P.starts, P.owner⟩) := hid (by unfold clPut; simp only [List.getD_eq_getElem?_getD, Hl.out]; rfl)
  rw [HC2.out] at HC
  clear HV1d HKd HF3 Hut HS3 HU3 HO3 HN3 HS HC2 HOw
  go_upto_region 6 with fail
  generalize w3.setCell ⟨g, off + b, none⟩ (.slice va' (mnext l (st, en)).length vc') = w4 at HV4 HK4 ⊢
  clear c3 hfz
  have c8 : w4.cell? ⟨b8, 0, none⟩ = some (.pointer (some ⟨pb, 0, none⟩)) := HV4.out.p8.cell 0
  have cO : w4.cell? ⟨pb, 2, none⟩ = some (.slice oa1 P.owner.length oc1) := HV4.out.pb.cell 2
  obtain ⟨n, hn⟩ : ∃ n, P.owner.length = n := ⟨_, rfl⟩
  rw [hn] at cO hol
  have Hn := hid hn
  obtain ⟨BB, hBB⟩ : ∃ BB, (!decide (P.owner.getLast? = some (b : Int))) = BB := ⟨_, rfl⟩
  have HBB := hid hBB
  clear hn hBB
  go_upto_region 7 with fail
  go_cut [57] (fun v57 wc => v57 = .bool BB ∧ wc = w4)
  case first =>
    as_aux_lemma =>
    by_cases hn0 : n = 0
    · have d0 : ((n : Int) == 0) = true := by rw [hn0]; rfl
      have d0' : (n == 0) = true := by rw [hn0]; rfl
      have hb1 : BB = true := by
        rw [← HBB.out, List.eq_nil_of_length_eq_zero (show P.owner.length = 0 by rw [Hn.out]; exact hn0)]
        rfl
      subst hb1
      go_wp2_with fail
      go_meet
      case rel => exact ⟨rfl, rfl⟩
    · have d0 : ((n : Int) == 0) = false := by simp; omega
      have d0' : (n == 0) = false := by simp; omega
      obtain ⟨m, hm⟩ : ∃ m, n = m + 1 := ⟨n - 1, by omega⟩
      obtain ⟨o, ho⟩ : ∃ o, P.owner[m]? = some o := ⟨_, List.getElem?_eq_getElem (by rw [Hn.out]; omega)⟩
      obtain ⟨g2, off2, rfl, e2⟩ := HV4.out.fo.cell (i := m) (by rw [Hn.out]; omega)
      rw [List.getElem?_map, ho] at e2
      have e2' : w4.cell? ⟨g2, off2 + m, none⟩ = some (.int .i64 o) := e2
      have i1 : (n : Int) - 1 = (m : Int) := by omega
      have i2 : (m : Int) < (n : Int) := by omega
      have hbv : BB = !decide (o = (b : Int)) := by
        rw [← HBB.out, List.getLast?_eq_getElem?, Hn.out, show n - 1 = m by omega, ho]
        simp
      clear e2 ho hm
      by_cases hob : o = (b : Int)
      · have q1 : (o == (b : Int)) = true := by simp [hob]
        have hb1 : BB = false := by rw [hbv, decide_eq_true hob]; rfl
        subst hb1
        clear hbv
        go_wp2_with fail
        go_meet
        case rel => exact ⟨rfl, rfl⟩
      · have q1 : (o == (b : Int)) = false := by simp [hob]
        have hb1 : BB = true := by rw [hbv, decide_eq_false hob]; rfl
        subst hb1
        clear hbv
        go_wp2_with fail
        go_meet
        case rel => exact ⟨by simp [bne, q1], rfl⟩
  case rest =>
  obtain ⟨rfl, hwc⟩ := hcut
  subst hwc
  cases BB with
  | false =>
    as_aux_lemma =>
    have hlast : P.owner.getLast? = some (b : Int) := by have h := HBB.out; simpa using h
    go_wp2
    refine bodyPost_end (results_none Try.results87 _ _ _) rfl ⟨rfl, HK4.out, ?_⟩
    rw [HC.out]
    unfold clOwn
    rw [if_pos hlast]
    exact ⟨_, _, _, _, _, _, _, _, HV4.out⟩
  | true =>
  have hlast : ¬ P.owner.getLast? = some (b : Int) := by have h := HBB.out; simpa using h
  have HC5 : Hid (closeS P s st en = ⟨pats1, lists1.set b (mnext l (st, en)), P.starts ++ [st], P.owner ++ [(b : Int)]⟩) := hid (by rw [HC.out]; unfold clOwn; rw [if_neg hlast])
  clear HC c8 cO HBB hlast
  have HVd : Hid (PMv w0 ⟨b8, pb, b9, b10, gi, b11, km, b12⟩ s st pats1 (lists1.set b (mnext l (st, en))) P.starts P.owner sa1 sc1 oa1 oc1 (some ⟨g, off, none⟩) lc1 (LV1.set b (.slice va' (mnext l (st, en)).length vc')) D1 wc.drew) := hid (HV4.out.below (Drew.below ⟨1, rfl⟩ _))
  have HKd : Hid (KeepE w wc.drew) := hid (HK4.out.trans (KeepE.below (Drew.below ⟨1, rfl⟩ _)))
  clear HV4 HK4 Hl Hv hlr hln hll hll1 hbl
  generalize LV1.set b (.slice va' (mnext l (st, en)).length vc') = LV2 at HVd
  generalize lists1.set b (mnext l (st, en)) = lists2 at HVd HC5
  go_upto_region 8 with fail
  obtain ⟨m, hm⟩ : ∃ m, P.starts.length = m := ⟨_, rfl⟩
  have Hm := hid hm
  have hml : m ≤ 196608 := by rw [← hm, hsl, Hn.out]; exact hol
  have HS : Hid (∀ w' : World, PMv w0 ⟨b8, pb, b9, b10, gi, b11, km, b12⟩ s st pats1 lists2 P.starts P.owner sa1 sc1 oa1 oc1 (some ⟨g, off, none⟩) lc1 LV2 D1 w' → w'.cell? ⟨b8, 0, none⟩ = some (.pointer (some ⟨pb, 0, none⟩)) ∧ w'.cell? ⟨pb, 1, none⟩ = some (.slice sa1 m sc1) ∧ w'.cell? ⟨b12, 0, none⟩ = some (.int .i64 st)) := hid (fun w' h => ⟨h.p8.cell 0, by have := h.pb.cell 1; rw [← Hm.out]; exact this, h.stB.cell 0⟩)
  clear hm hsl
  refine wp_region_heavy (fun w' => w'.cell? ⟨b8, 0, none⟩ = some (.pointer (some ⟨pb, 0, none⟩)) ∧ w'.cell? ⟨pb, 1, none⟩ = some (.slice sa1 m sc1) ∧ w'.cell? ⟨b12, 0, none⟩ = some (.int .i64 st)) 8 [0, 1, 2, 3, 4, 5] [6, 7] rfl (by kernel_rfl) (by kernel_rfl) (fun d _ _ _ _ h => by cases d <;> exact h) (HS.out _ HVd.out) ?_
  apply Exists.intro
  refine ⟨?_, ?_⟩
  · intro W hW
    have d0 : ∀ x, (W x).cell? ⟨b8, 0, none⟩ = some (.pointer (some ⟨pb, 0, none⟩)) := fun x => (hW x).1
    have d1 : ∀ x, (W x).cell? ⟨pb, 1, none⟩ = some (.slice sa1 m sc1) := fun x => (hW x).2.1
    have d2 : ∀ x, (W x).cell? ⟨b12, 0, none⟩ = some (.int .i64 st) := fun x => (hW x).2.2
    clear hW
    simp only [List.take, opsAt, List.drop, List.cons_append, List.nil_append]
    repeat (go_big_quiet_step (fail))
    exact rfl
  simp only [List.take, List.drop, opsAt, List.cons_append, List.nil_append, wpHv]
  generalize wc.drew = w2 at HVd HKd ⊢
  obtain ⟨q, hq⟩ : ∃ q, w2.heap.size = q := ⟨_, rfl⟩
  have hbq := Blk.new w2 [.int .i64 st] 3
  rw [hq] at hbq
  obtain ⟨w3, hw3⟩ : ∃ w3, w2.alloc (.cells #[.int .i64 st] 3) = w3 := ⟨_, rfl⟩
  have hw3' : w2.alloc (.cells [Value.int .i64 st].toArray 3) = w3 := hw3
  rw [hw3'] at hbq
  have HBe3 : Hid (Below w2.heap.size w2 w3) := hid (by rw [← hw3]; exact nbel w2 _)
  have HV3 := hid (HVd.out.below HBe3.out)
  have HK3 := hid (HKd.out.trans (KeepE.below HBe3.out))
  have Hcq : Hid (w3.cell? ⟨q, 0, none⟩ = some (.int .i64 st)) := hid (hbq.cell 0)
  clear hbq hw3'
  go_wp2_with fail
  try simp only [hw3]
  clear hw3 HVd HKd HBe3
  refine ⟨HS.out _ HV3.out, ?_⟩
  have hby : (m + 1) * 8 ≤ 140737488355328 := by omega
  have HF3 : Hid (Fl w3 3 sa1 m sc1 (P.starts.map iv64)) := hid (by rw [← Hm.out]; exact HV3.out.fs)
  go_wp2_with (at_builtin; refine wpList_append_file rfl (.tmp 62) (.tmp 64) 26 rfl 3 j0 (.int .i64 0) 8 Try.underlying26 HJ.out.1 HJ.out.2.1 HJ.out.2.2.1 HJ.out.2.2.2 rfl sa1 m sc1 _ rfl HF3.out q 1 (.int .i64 st) rfl Hcq.out rfl hby (by decide) ?_; intro a5 c5 w5 hf5 hu5 hb5 hn5; have HF5 := hid hf5; have HU5 := hid hu5; have Hb5 := hid hb5; clear hf5 hu5 hb5 hn5)
  have Hut : Hid (UT (ofT 3) w3 w5) := hid (UT.updO HU5.out HF3.out.ty)
  have HP5 := hid (HV3.out.pb.ut Hut.out (notT (by decide)))
  refine ⟨⟨(HV3.out.p8.ut Hut.out (notT (by decide))).cell 0, by have := HP5.out.cell 1; rw [← Hm.out]; exact this, (HU5.out.blk HV3.out.stB (fun e => (HV3.out.so _ e).2.1 rfl)).cell 0⟩, ?_⟩
  simp only [QN]
  have c5a : w5.cell? ⟨pb, 1, none⟩ = some (.slice sa1 m sc1) := by have := HP5.out.cell 1; rw [← Hm.out]; exact this
  have f5 : w5.frozen? ⟨pb, 1, none⟩ = false := HP5.out.frozen 1
  have HV6 : Hid (PMv w0 ⟨b8, pb, b9, b10, gi, b11, km, b12⟩ s st pats1 lists2 (P.starts ++ [st]) P.owner a5 c5 oa1 oc1 (some ⟨g, off, none⟩) lc1 LV2 D1 (w5.setCell ⟨pb, 1, none⟩ (.slice a5 (m + 1) c5))) := hid (by
    have h := HV3.out.appS (x := st) (sa' := a5) (sc' := c5) (by rw [Hm.out]; exact HF5.out) HU5.out Hb5.out
    rw [Hm.out] at h
    exact h)
  have HK6 : Hid (KeepE w (w5.setCell ⟨pb, 1, none⟩ (.slice a5 (m + 1) c5))) := hid ((HK3.out.trans (KeepE.ut Hut.out (fun _ _ => notT (by decide)) (fun _ _ => notT (by decide)))).trans (KeepE.ut (UT.upd ((Upd.refl pb w5).setCell rfl _) HP5.out) (fun _ _ => notT (by decide)) (fun _ _ => notT (by decide))))
  clear HV3 HK3 HF3 HU5 HF5 Hb5 Hut HP5 Hcq HS
  go_upto_region 9 with fail
  generalize w5.setCell ⟨pb, 1, none⟩ (.slice a5 (m + 1) c5) = w6 at HV6 HK6 ⊢
  clear c5a f5
  have HVd : Hid (PMv w0 ⟨b8, pb, b9, b10, gi, b11, km, b12⟩ s st pats1 lists2 (P.starts ++ [st]) P.owner a5 c5 oa1 oc1 (some ⟨g, off, none⟩) lc1 LV2 D1 w6.drew) := hid (HV6.out.below (Drew.below ⟨1, rfl⟩ _))
  have HKd : Hid (KeepE w w6.drew) := hid (HK6.out.trans (KeepE.below (Drew.below ⟨1, rfl⟩ _)))
  have HS : Hid (∀ w' : World, PMv w0 ⟨b8, pb, b9, b10, gi, b11, km, b12⟩ s st pats1 lists2 (P.starts ++ [st]) P.owner a5 c5 oa1 oc1 (some ⟨g, off, none⟩) lc1 LV2 D1 w' → w'.cell? ⟨b8, 0, none⟩ = some (.pointer (some ⟨pb, 0, none⟩)) ∧ w'.cell? ⟨pb, 2, none⟩ = some (.slice oa1 n oc1)) := hid (fun w' h => ⟨h.p8.cell 0, by have := h.pb.cell 2; rw [← Hn.out]; exact this⟩)
  clear HV6 HK6
  refine wp_region_heavy (fun w' => w'.cell? ⟨b8, 0, none⟩ = some (.pointer (some ⟨pb, 0, none⟩)) ∧ w'.cell? ⟨pb, 2, none⟩ = some (.slice oa1 n oc1)) 8 [0, 1, 2, 3, 4, 5] [6, 7] rfl (by kernel_rfl) (by kernel_rfl) (fun d _ _ _ _ h => by cases d <;> exact h) (HS.out _ HVd.out) ?_
  apply Exists.intro
  refine ⟨?_, ?_⟩
  · intro W hW
    have d0 : ∀ x, (W x).cell? ⟨b8, 0, none⟩ = some (.pointer (some ⟨pb, 0, none⟩)) := fun x => (hW x).1
    have d1 : ∀ x, (W x).cell? ⟨pb, 2, none⟩ = some (.slice oa1 n oc1) := fun x => (hW x).2
    clear hW
    simp only [List.take, opsAt, List.drop, List.cons_append, List.nil_append]
    repeat (go_big_quiet_step (fail))
    exact rfl
  simp only [List.take, List.drop, opsAt, List.cons_append, List.nil_append, wpHv]
  generalize w6.drew = w7 at HVd HKd ⊢
  obtain ⟨q7, hq7⟩ : ∃ q7, w7.heap.size = q7 := ⟨_, rfl⟩
  have hbq := Blk.new w7 [.int .i64 (b : Int)] 3
  rw [hq7] at hbq
  obtain ⟨w8, hw8⟩ : ∃ w8, w7.alloc (.cells #[.int .i64 (b : Int)] 3) = w8 := ⟨_, rfl⟩
  have hw8' : w7.alloc (.cells [Value.int .i64 (b : Int)].toArray 3) = w8 := hw8
  rw [hw8'] at hbq
  have HBe8 : Hid (Below w7.heap.size w7 w8) := hid (by rw [← hw8]; exact nbel w7 _)
  have HV8 := hid (HVd.out.below HBe8.out)
  have HK8 := hid (HKd.out.trans (KeepE.below HBe8.out))
  have Hcq : Hid (w8.cell? ⟨q7, 0, none⟩ = some (.int .i64 (b : Int))) := hid (hbq.cell 0)
  clear hbq hw8'
  go_wp2_with fail
  try simp only [hw8]
  clear hw8 HVd HKd HBe8
  refine ⟨HS.out _ HV8.out, ?_⟩
  have hby8 : (n + 1) * 8 ≤ 140737488355328 := by omega
  have HF8 : Hid (Fl w8 3 oa1 n oc1 (P.owner.map iv64)) := hid (by rw [← Hn.out]; exact HV8.out.fo)
  go_wp2_with (at_builtin; refine wpList_append_file rfl (.tmp 72) (.tmp 74) 26 rfl 3 j0 (.int .i64 0) 8 Try.underlying26 HJ.out.1 HJ.out.2.1 HJ.out.2.2.1 HJ.out.2.2.2 rfl oa1 n oc1 _ rfl HF8.out q7 1 (.int .i64 (b : Int)) rfl Hcq.out rfl hby8 (by decide) ?_; intro a9 c9 w9 hf9 hu9 hb9 hn9; have HF9 := hid hf9; have HU9 := hid hu9; have Hb9 := hid hb9; clear hf9 hu9 hb9 hn9)
  have Hut : Hid (UT (ofT 3) w8 w9) := hid (UT.updO HU9.out HF8.out.ty)
  have HP9 := hid (HV8.out.pb.ut Hut.out (notT (by decide)))
  refine ⟨⟨(HV8.out.p8.ut Hut.out (notT (by decide))).cell 0, by have := HP9.out.cell 2; rw [← Hn.out]; exact this⟩, ?_⟩
  simp only [QN]
  have c9a : w9.cell? ⟨pb, 2, none⟩ = some (.slice oa1 n oc1) := by have := HP9.out.cell 2; rw [← Hn.out]; exact this
  have f9 : w9.frozen? ⟨pb, 2, none⟩ = false := HP9.out.frozen 2
  have HV10 : Hid (PMv w0 ⟨b8, pb, b9, b10, gi, b11, km, b12⟩ s st pats1 lists2 (P.starts ++ [st]) (P.owner ++ [(b : Int)]) a5 c5 a9 c9 (some ⟨g, off, none⟩) lc1 LV2 D1 (w9.setCell ⟨pb, 2, none⟩ (.slice a9 (n + 1) c9))) := hid (by
    have h := HV8.out.appO (x := (b : Int)) (oa' := a9) (oc' := c9) (by rw [Hn.out]; exact HF9.out) HU9.out Hb9.out
    rw [Hn.out] at h
    exact h)
  have HK10 : Hid (KeepE w (w9.setCell ⟨pb, 2, none⟩ (.slice a9 (n + 1) c9))) := hid ((HK8.out.trans (KeepE.ut Hut.out (fun _ _ => notT (by decide)) (fun _ _ => notT (by decide)))).trans (KeepE.ut (UT.upd ((Upd.refl pb w9).setCell rfl _) HP9.out) (fun _ _ => notT (by decide)) (fun _ _ => notT (by decide))))
  clear HV8 HK8 HF8 HU9 HF9 Hb9 Hut HP9 Hcq HS
  go_wp2
  refine bodyPost_end (results_none Try.results87 _ _ _) rfl ⟨rfl, HK10.out, ?_⟩
  rw [HC5.out]
  exact ⟨_, _, _, _, _, _, _, _, HV10.out⟩
end Go.Proofs.Qxb6500884a
