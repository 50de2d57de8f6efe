/- StaleObjectsAreRefused: the walk. -/
import Derived.Test.Qxb6500887aGreatAzLc
import Derived.Deep.DeepCutAuto
namespace Go.Proofs.Qxb6500887aGreat
open Go.RowKit
set_option linter.unusedSimpArgs false
set_option linter.unusedVariables false
set_option maxRecDepth 1000000 in
set_option maxHeartbeats 8000000 in
theorem staleLaw_walk (a : Option Addr) (n c : Nat) (l : List AOp) (w : World) (hs : Script w a n c l) :
    Calls Tryz.prog 6 #[.slice a n c] w fun e w' => e = .returned (.bool true) ∧ Below w.heap.size w w' := by
  have hn := hs.1.2.2.1.1
  have HS := hid hs
  clear hs
  by_cases hsm : n ≤ 65536
  rotate_left
  · have hd : decide (n ≤ 65536) = false := decide_eq_false hsm
    go_enter Tryz.func6, Tryz.ntmps6
    go_wp2_with (go_at_call 10; refine (small_walk a n c hn _).mono ?_; rintro e w' ⟨rfl, rfl⟩)
    go_ret
    exact ⟨rfl, Below.refl _ _⟩
  have hd : decide (n ≤ 65536) = true := decide_eq_true hsm
  go_enter Tryz.func6, Tryz.ntmps6
  go_wp2_with (go_at_call 10; refine (small_walk a n c hn _).mono ?_; rintro e w' ⟨rfl, rfl⟩)
  refine (LS.start _).mono ?_
  rintro e w1 ⟨L, rfl, H0⟩
  have HS0 : Hid (SV w' L S0 [] (.slice none 0 0) w1) := hid ⟨H0.out, OwR.nil _ _ _, fun o ho => (by cases ho), by simp⟩
  clear H0
  go_wp2_with fail
  go_loopw [4, 31] (fun v u wr => ∃ (k m cp : Nat) (ax : Option Addr), v = .slice ax m cp ∧ u = .int .i64 (k : Int) ∧ k ≤ n ∧ m ≤ 12 ∧ Hid (∃ S vs, m = vs.length ∧ SV w' L S vs (.slice ax m cp) wr)) (fun _ u _ => n - (intOf u).toNat)
  case atStart => exact ⟨0, 0, 0, none, rfl, rfl, Nat.zero_le _, by omega, hid ⟨S0, [], rfl, HS0.out⟩⟩
  case round =>
  clear HS0
  obtain ⟨k, m, cp, ax, rfl, rfl, hk, hm, HK⟩ := hrel
  obtain ⟨S, vs, hmv, hsv⟩ := HK.out
  have HV := hid hsv
  have Hmv := hid hmv
  clear hsv hmv HK
  by_cases hlt : k < n
  rotate_left
  · as_aux_lemma =>
    have hkn : k = n := by omega
    subst hkn
    have HF := hid HV.out.ls.bel
    clear HV Hmv
    go_wp2
    go_ret
    exact ⟨rfl, HF.out⟩
  obtain ⟨o, ho, hok, b, off, rfl, hb, c0, c1, c2, c3⟩ := (HS.out.below HV.out.ls.bel).at hlt
  obtain ⟨kind, oa, ob, oc⟩ := o
  obtain ⟨k0, k1, ha, hb', hc'⟩ := hok
  dsimp only at c0 c1 c2 c3 ha hb' hc' k0 k1
  have HA := hid ha
  have HBo := hid hb'
  have HCo := hid hc'
  have HK0 := hid k0
  clear ho ha hb' hc' k0 k1
  obtain ⟨p, hp⟩ : ∃ p, wr.heap.size = p := ⟨_, rfl⟩
  have H1 : Hid (SO w' L S vs (.slice ax m cp) p [.int .u8 kind, .int .u64 oa, .int .u64 ob, .int .u64 oc] (wr.alloc (.cells #[.int .u8 kind, .int .u64 oa, .int .u64 ob, .int .u64 oc] 31))) := hid (by
    have kk := Blk.new wr [.int .u8 kind, .int .u64 oa, .int .u64 ob, .int .u64 oc] 31
    rw [hp] at kk
    exact ⟨HV.out.below (nbel _ _), kk⟩)
  go_upto_region 8 with fail
  (try simp only [hp])
  generalize hwa : World.alloc wr _ = wa at H1 ⊢
  clear hwa c0 c1 c2 c3 hp HV hb
  obtain ⟨c0, c1, c2, c3⟩ := H1.out.cells
  have HC := hid (H1.out.sv.ls.play kind oa ob oc HK0.out HA.out HBo.out HCo.out)
  go_wp2_with fail
  refine HC.out.mono ?_
  rintro e w2 ⟨rs, S1, rfl, HR⟩
  have H2 := hid (H1.out.step HR.out.2.1)
  clear HC HR H1 c0 c1 c2 c3 HK0
  clear S
  go_upto_region 9 with fail
  go_cut [7, 8] from 38 to 44 (fun v7 v8 wc => ∃ (q : Nat) (cd : Int), v7 = .pointer (some ⟨q, 0, none⟩) ∧ v8 = .int .u8 cd ∧ Hid (SO w' L S1 vs (.slice ax m cp) p [.int .u8 kind, .int .u64 oa, .int .u64 ob, .int .u64 oc] wc ∧ (cd = 0 → ∃ o, Blk wc q 61 (obL L o) ∧ VOk o ∧ S1.W o.k = o.raw)))
  case first =>
    as_aux_lemma =>
    obtain ⟨c0, c1, c2, c3⟩ := H2.out.cells
    have HC := hid (openZ H2.out.sv.ls.am oa)
    go_wp2_with fail
    refine HC.out.mono ?_
    rintro e w3 ⟨rfl, hb3⟩
    have H3 := hid (H2.out.below hb3)
    clear HC hb3 H2 c0 c1 c2 c3
    obtain ⟨q, hq⟩ : ∃ q, w3.heap.size = q := ⟨_, rfl⟩
    by_cases h0 : onC S1 oa = 0
    · as_aux_lemma =>
      obtain ⟨o, ho, hv, hr⟩ := onX H3.out.sv.ls.am h0
      rw [h0, ho]
      have HF : Hid (SO w' L S1 vs (.slice ax m cp) p [.int .u8 kind, .int .u64 oa, .int .u64 ob, .int .u64 oc] (w3.alloc (.cells #[.pointer (some ⟨L.a, 0, none⟩), .int .i64 (o.k : Int), .int .u64 (o.raw : Int), .int .i64 (o.sz : Int), .int .i64 (o.rf : Int)] 61)) ∧ (∃ o2, Blk (w3.alloc (.cells #[.pointer (some ⟨L.a, 0, none⟩), .int .i64 (o.k : Int), .int .u64 (o.raw : Int), .int .i64 (o.sz : Int), .int .i64 (o.rf : Int)] 61)) q 61 (obL L o2) ∧ VOk o2 ∧ S1.W o2.k = o2.raw)) := hid (by
        have kk := Blk.new w3 (obL L o) 61
        rw [hq] at kk
        exact ⟨H3.out.below (nbel _ _), ⟨o, kk, hv, hr⟩⟩)
      clear h0 ho hv hr H3
      dsimp only [obL]
      go_wp2
      (try simp only [hq])
      go_meet
      case rel => exact ⟨q, 0, rfl, rfl, hid ⟨HF.out.1, fun _ => HF.out.2⟩⟩
    · as_aux_lemma =>
      rw [onC_no h0]
      have HF : Hid (SO w' L S1 vs (.slice ax m cp) p [.int .u8 kind, .int .u64 oa, .int .u64 ob, .int .u64 oc] (w3.alloc (.cells #[.pointer none, .int .i64 0, .int .u64 0, .int .i64 0, .int .i64 0] 61)) ∧ (onC S1 oa = 0 → ∃ o, Blk (w3.alloc (.cells #[.pointer none, .int .i64 0, .int .u64 0, .int .i64 0, .int .i64 0] 61)) q 61 (obL L o) ∧ VOk o ∧ S1.W o.k = o.raw)) := hid ⟨H3.out.below (nbel _ _), fun h => absurd h h0⟩
      clear h0 H3
      generalize onC S1 oa = cd at HF ⊢
      dsimp only [ob0]
      go_wp2
      (try simp only [hq])
      go_meet
      case rel => exact ⟨q, cd, rfl, rfl, HF⟩
  case rest =>
  obtain ⟨q, cd, rfl, rfl, H3⟩ := hcut
  clear H2
  obtain ⟨b1, hb1⟩ : ∃ b, (decide (cd = 0) && decide (m < 12)) = b := ⟨_, rfl⟩
  have Hb1 := hid hb1
  clear hb1
  go_upto_region 10 with fail
  go_cut [51] from 45 to 51 (fun v wd => v = .bool b1 ∧ wd = wc)
  case first =>
    as_aux_lemma =>
    clear H3
    by_cases h0 : cd = 0
    · subst h0
      have d1 : decide ((m : Int) < 12) = b1 := by rw [← Hb1.out, decide_eq_true rfl, Bool.true_and]; exact decide_eq_decide.2 (by omega)
      have d2 : decide (m < 12) = b1 := by rw [← Hb1.out, decide_eq_true rfl, Bool.true_and]
      clear Hb1
      go_wp2
      go_meet
      case rel => exact ⟨by first | rfl | (simp [d1, d2]), rfl⟩
    · have d0 : (cd == 0) = false := by simp [h0]
      have d1 : false = b1 := by rw [← Hb1.out]; simp [h0]
      subst d1
      clear Hb1 h0
      go_wp2
      go_meet
      case rel => exact ⟨rfl, rfl⟩
  case rest =>
  obtain ⟨rfl, hwd⟩ := hcut
  have hwd' := hwd.symm
  clear hwd
  subst hwd'
  go_upto_if 51 with fail
  go_cut [4] from 52 to 64 (fun v wd => ∃ (m cp : Nat) (ax : Option Addr), v = .slice ax m cp ∧ m ≤ 12 ∧ Hid (∃ vs, m = vs.length ∧ SO w' L S1 vs (.slice ax m cp) p [.int .u8 kind, .int .u64 oa, .int .u64 ob, .int .u64 oc] wd))
  case first =>
    cases b1 with
    | false =>
      have HF : Hid (∃ vs, m = vs.length ∧ SO w' L S1 vs (.slice ax m cp) p [.int .u8 kind, .int .u64 oa, .int .u64 ob, .int .u64 oc] wc) := hid ⟨vs, Hmv.out, H3.out.1⟩
      clear H3 Hb1
      go_wp2
      go_meet
      case rel => exact ⟨m, cp, ax, rfl, hm, HF⟩
    | true =>
      have hbb := Hb1.out
      simp only [Bool.and_eq_true, decide_eq_true_eq] at hbb
      obtain ⟨rfl, hm12⟩ := hbb
      obtain ⟨o, hbo, hvo, hro⟩ := H3.out.2 rfl
      have HQ := hid hbo
      have Hv := hid hvo
      have Hr := hid hro
      have H4 := hid H3.out.1
      clear hbo hvo hro H3 Hb1
      have q0 : wc.cell? ⟨q, 0, none⟩ = some (.pointer (some ⟨L.a, 0, none⟩)) := HQ.out.cell 0
      have q1 : wc.cell? ⟨q, 1, none⟩ = some (.int .i64 (o.k : Int)) := HQ.out.cell 1
      have q2 : wc.cell? ⟨q, 2, none⟩ = some (.int .u64 (o.raw : Int)) := HQ.out.cell 2
      have q3 : wc.cell? ⟨q, 3, none⟩ = some (.int .i64 (o.sz : Int)) := HQ.out.cell 3
      have q4 : wc.cell? ⟨q, 4, none⟩ = some (.int .i64 (o.rf : Int)) := HQ.out.cell 4
      have HC := hid (obAddrZ (l := L) Hv.out.ok wc)
      go_wp2_with fail
      refine HC.out.mono ?_
      rintro e w4 ⟨rfl, hb4⟩
      have H5 := hid (H4.out.below hb4)
      have HQ5 := hid (HQ.out.below hb4)
      clear HC hb4 H4 HQ q0 q1 q2 q3 q4
      have HC := hid (loadK H5.out.sv.ls.am Hv.out.ok)
      rw [Hr.out] at HC
      have q0 : w4.cell? ⟨q, 0, none⟩ = some (.pointer (some ⟨L.a, 0, none⟩)) := HQ5.out.cell 0
      have q1 : w4.cell? ⟨q, 1, none⟩ = some (.int .i64 (o.k : Int)) := HQ5.out.cell 1
      have q2 : w4.cell? ⟨q, 2, none⟩ = some (.int .u64 (o.raw : Int)) := HQ5.out.cell 2
      have q3 : w4.cell? ⟨q, 3, none⟩ = some (.int .i64 (o.sz : Int)) := HQ5.out.cell 3
      have q4 : w4.cell? ⟨q, 4, none⟩ = some (.int .i64 (o.rf : Int)) := HQ5.out.cell 4
      (go_wp2_with fail; refine (HC.out).mono ?_; rintro e_ w_ ⟨he_, hw_⟩; subst he_; have hs_ := hw_.symm; clear hw_; subst hs_)
      go_wp2_with (at_builtin; refine stopHere ?_)
      intro _
      obtain ⟨k8, hk8⟩ : ∃ k, w4.heap.size = k := ⟨_, rfl⟩
      obtain ⟨wf, hwf⟩ : ∃ wf, w4.alloc (.cells #[.pointer (some ⟨L.a, 0, none⟩), .int .i64 (o.k : Int), .int .u64 (o.raw : Int), .int .i64 (o.sz : Int), .int .i64 (o.rf : Int), .int .u64 (o.raw : Int)] 69) = wf := ⟨_, rfl⟩
      have HJf : Hid (SO w' L S1 vs (.slice ax m cp) p [.int .u8 kind, .int .u64 oa, .int .u64 ob, .int .u64 oc] wf) := hid (by rw [← hwf]; exact H5.out.below (nbel w4 _))
      have HNw : Hid (∀ ad, some (⟨k8, 0, none⟩ : Addr) = some ad → ∀ j u, ([o].flatMap (rtV L).f)[j]? = some u → wf.cell? (ad.add j) = some u) := hid (by rw [← hwf]; exact newX (rtV L) w4 o _ hk8.symm)
      (try simp only [hwf, hk8])
      clear hwf hk8 H5 HQ5 HC q0 q1 q2 q3 q4
      apply wpList_app_l (P := Tryz.prog) (K := rtV L) (n0 := w'.heap.size) (w := wf) (v := .slice ax m cp) (xs := vs) (okV L) (s := .tmp 59) (x := .tmp 63) (ys := [o]) (ax := some ⟨k8, 0, none⟩) (n := 1) (k := 1)
      · rfl
      · exact HJf.out.sv.row
      · rfl
      · rfl
      · rfl
      · rfl
      · exact (fun h => by cases h)
      · exact HNw.out
      · have h1 := HJf.out.sv.len
        show (vs.length + 1) * 48 ≤ _
        omega
      · exact HJf.out.sv.ls.bel.size
      intro v9 w9 hr9 hk9 hg9
      obtain ⟨a9, q9, rfl⟩ := hr9.out.shape
      have hl9 : (vs ++ [o]).length ≤ 12 := by rw [List.length_append, ← Hmv.out]; simp; omega
      have HF : Hid (∃ us, (vs ++ [o]).length = us.length ∧ SO w' L S1 us (.slice a9 (vs ++ [o]).length q9) p [.int .u8 kind, .int .u64 oa, .int .u64 ob, .int .u64 oc] w9) := hid ⟨_, rfl, HJf.out.app hk9.out hr9.out Hv.out (by rw [← Hmv.out]; exact hm12)⟩
      generalize (vs ++ [o]).length = n9 at HF hl9 ⊢
      clear HJf HNw hr9 hk9 hg9 Hr Hv
      go_wp2
      go_meet
      case rel => exact ⟨n9, q9, a9, rfl, hl9, HF⟩
  case rest =>
  obtain ⟨m, cp, ax, rfl, hm, HW⟩ := hcut
  clear H3 Hb1 Hmv
  obtain ⟨us, hmu, hso⟩ := HW.out
  have H4 := hid hso
  have Hmu := hid hmu
  clear hso hmu HW
  obtain ⟨vv, hvv⟩ : ∃ v, S1.v = v := ⟨_, rfl⟩
  have HVr : Hid (∀ wz, AM L S1 wz → Calls Tryz.prog 17 #[.pointer (some ⟨L.a, 0, none⟩)] wz fun e w' => e = .returned (.int .u64 (vv : Int)) ∧ w' = wz) := hid (fun wz hz => by rw [← hvv]; exact versionZ hz)
  clear hvv
  (go_wp2_with fail; refine (HVr.out _ H4.out.sv.ls.am).mono ?_; rintro e_ w_ ⟨he_, hw_⟩; subst he_; have hs_ := hw_.symm; clear hw_; subst hs_)
  go_wp2_with fail
  go_loopw [69] (fun u wr => ∃ j : Nat, u = .int .i64 (j : Int) ∧ j ≤ m ∧ Hid (SO w' L S1 us (.slice ax m cp) p [.int .u8 kind, .int .u64 oa, .int .u64 ob, .int .u64 oc] wr)) (fun u _ => m - (intOf u).toNat)
  case atStart => exact ⟨0, rfl, Nat.zero_le _, H4⟩
  case round =>
  clear H4
  obtain ⟨j, rfl, hj, H5⟩ := hrel
  by_cases hjm : j < m
  rotate_left
  · have dj : decide ((j : Int) < (m : Int)) = false := decide_eq_false (by omega)
    obtain ⟨c0, c1, c2, c3⟩ := H5.out.cells
    have HC := hid (refusesAllZ (v0 := .pointer none) (v1 := .int .i64 0) (v2 := .int .u64 0) (v3 := .int .i64 0) (v4 := .int .i64 0) H5.out.sv.ls.am Chk.zero kind oa ob oc HBo.out HCo.out)
    go_wp2_with fail
    refine HC.out.mono ?_
    rintro e w6 ⟨rfl, hb6⟩
    have H6 := hid (H5.out.below hb6.out)
    clear HC hb6 H5 c0 c1 c2 c3
    (go_wp2_with fail; refine (HVr.out _ H6.out.sv.ls.am).mono ?_; rintro e_ w_ ⟨he_, hw_⟩; subst he_; have hs_ := hw_.symm; clear hw_; subst hs_)
    have HF : Hid (∃ S vs, m = vs.length ∧ SV w' L S vs (.slice ax m cp) w6) := hid ⟨S1, us, Hmu.out, H6.out.sv⟩
    clear H6 HVr Hmu
    go_wp2
    exact ⟨⟨k + 1, m, cp, ax, rfl, by go_num, by omega, hm, HF⟩, by simp [intOf]; omega⟩
  obtain ⟨o, ho⟩ : ∃ o, us[j]? = some o := ⟨_, List.getElem?_eq_getElem (by rw [← Hmu.out]; exact hjm)⟩
  have Hv := hid (H5.out.sv.ok o (List.mem_of_getElem? ho))
  obtain ⟨g, q9, he, hg, hcell⟩ := H5.out.sv.row.rx.get (by show 0 < 6; decide) (fun _ => rfl) ho
  injection he with e1 e2 e3
  subst e1
  have d0 : wr.cell? ⟨g, j * 6, none⟩ = some (.pointer (some ⟨L.a, 0, none⟩)) := hcell 0 (by show 0 < 6; decide)
  have d1 : wr.cell? ⟨g, j * 6 + 1, none⟩ = some (.int .i64 (o.k : Int)) := hcell 1 (by show 1 < 6; decide)
  have d2 : wr.cell? ⟨g, j * 6 + 2, none⟩ = some (.int .u64 (o.raw : Int)) := hcell 2 (by show 2 < 6; decide)
  have d3 : wr.cell? ⟨g, j * 6 + 3, none⟩ = some (.int .i64 (o.sz : Int)) := hcell 3 (by show 3 < 6; decide)
  have d4 : wr.cell? ⟨g, j * 6 + 4, none⟩ = some (.int .i64 (o.rf : Int)) := hcell 4 (by show 4 < 6; decide)
  have d5 : wr.cell? ⟨g, j * 6 + 5, none⟩ = some (.int .u64 (o.raw : Int)) := hcell 5 (by show 5 < 6; decide)
  clear e2 e3 hcell ho hg
  have dj : decide ((j : Int) < (m : Int)) = true := decide_eq_true (by omega)
  obtain ⟨z, hz⟩ : ∃ z, wr.heap.size = z := ⟨_, rfl⟩
  have H6 : Hid (SW w' L S1 us (.slice (some ⟨g, 0, none⟩) m cp) p [.int .u8 kind, .int .u64 oa, .int .u64 ob, .int .u64 oc] z [.pointer (some ⟨L.a, 0, none⟩), .int .i64 (o.k : Int), .int .u64 (o.raw : Int), .int .i64 (o.sz : Int), .int .i64 (o.rf : Int), .int .u64 (o.raw : Int)] (wr.alloc (.cells #[.pointer (some ⟨L.a, 0, none⟩), .int .i64 (o.k : Int), .int .u64 (o.raw : Int), .int .i64 (o.sz : Int), .int .i64 (o.rf : Int), .int .u64 (o.raw : Int)] 69))) := hid (by
    have kk := Blk.new wr [.pointer (some ⟨L.a, 0, none⟩), .int .i64 (o.k : Int), .int .u64 (o.raw : Int), .int .i64 (o.sz : Int), .int .i64 (o.rf : Int), .int .u64 (o.raw : Int)] 69
    rw [hz] at kk
    exact ⟨H5.out.below (nbel _ _), kk⟩)
  go_upto_region 17 with fail
  (try simp only [hz])
  generalize hwv : World.alloc wr _ = wv at H6 ⊢
  clear hwv d0 d1 d2 d3 d4 d5 hz H5
  have HAd := hid (fun wz => obAddrZ (l := L) Hv.out.ok wz)
  have HLd := hid (fun wz (hz : AM L S1 wz) => loadK hz Hv.out.ok)
  obtain ⟨⟨c0, c1, c2, c3⟩, p0, p1, p2, p3, p4, p5⟩ := H6.out.cells
  go_wp2_with fail
  refine (HAd.out _).mono ?_
  rintro e w6 ⟨rfl, hb6⟩
  have H7 := hid (H6.out.below hb6)
  clear hb6 H6 c0 c1 c2 c3 p0 p1 p2 p3 p4 p5
  obtain ⟨⟨c0, c1, c2, c3⟩, p0, p1, p2, p3, p4, p5⟩ := H7.out.cells
  go_wp2_with fail
  refine (HLd.out _ H7.out.so.sv.ls.am).mono ?_
  rintro e_ w_ ⟨he_, hw_⟩
  subst he_
  have hs_ := hw_.symm
  clear hw_
  subst hs_
  by_cases hst : S1.W o.k = o.raw
  rotate_left
  · have dst : (((S1.W o.k : Nat) : Int) == (o.raw : Int)) = false := by simp; omega
    have dst' : (((S1.W o.k : Nat) : Int) != (o.raw : Int)) = true := by simp [bne, dst]
    have HC := hid (refusesAllZ (v0 := .pointer (some ⟨L.a, 0, none⟩)) (v1 := .int .i64 (o.k : Int)) (v2 := .int .u64 (o.raw : Int)) (v3 := .int .i64 (o.sz : Int)) (v4 := .int .i64 (o.rf : Int)) H7.out.so.sv.ls.am (by
      have := Chk.ob (l := L) (S := S1) Hv.out.ok
      rw [show ckC S1 o = 6 by unfold ckC; rw [if_neg hst]] at this
      exact this) kind oa ob oc HBo.out HCo.out)
    clear hst
    generalize ((S1.W o.k : Nat) : Int) = sw at dst dst' ⊢
    go_wp2_with fail
    refine HC.out.mono ?_
    rintro e w8 ⟨rfl, hb8⟩
    have H8 := hid (H7.out.so.below hb8.out)
    clear HC hb8 H7 c0 c1 c2 c3 p0 p1 p2 p3 p4 p5 HVr HAd HLd Hv dst dst'
    go_wp2
    exact ⟨⟨j + 1, by go_num, by omega, H8⟩, by simp [intOf]; omega⟩
  have dst : (((S1.W o.k : Nat) : Int) == (o.raw : Int)) = true := by simp [hst]
  have dst' : (((S1.W o.k : Nat) : Int) != (o.raw : Int)) = false := by simp [hst]
  obtain ⟨nb, hnb⟩ : ∃ n, nbI ob = n := ⟨_, rfl⟩
  have HNb : Hid (∀ wz, Calls Tryz.prog 26 #[.int .u64 ob] wz fun e w' => e = .returned (.int .i64 nb) ∧ w' = wz) := hid (fun wz => by
    have := number_walk ob HBo.out wz
    rw [show wrap64 ob = nb from hnb] at this
    exact this)
  have HR1 := hid (fun wz (hz : AM L S1 wz) => obRefZ hz Hv.out.ok nb)
  have HR2 := hid (fun wz (hz : AM L S1 wz) => arLoadRefZ hz (65536 + (o.k : Int)) nb)
  have HD1 := hid (fun wz (hz : AM L S1 wz) => obDataZ hz Hv.out.ok nb)
  have HD2 := hid (fun wz (hz : AM L S1 wz) => arLoadDataZ hz (65536 + (o.k : Int)) nb)
  rw [Hv.out.ref hst nb] at HR2
  rw [Hv.out.data hst nb] at HD2
  generalize (rfV S1 o nb).1 = r1 at HR1 HR2
  generalize (rfV S1 o nb).2 = r2 at HR1 HR2
  generalize (dtV S1 o nb).1 = t1 at HD1 HD2
  generalize (dtV S1 o nb).2 = t2 at HD1 HD2
  clear hst hnb HLd Hv HVr
  generalize ((S1.W o.k : Nat) : Int) = sw at dst dst' ⊢
  go_wp2_with fail
  refine (HNb.out _).mono ?_
  rintro e_ w_ ⟨he_, hw_⟩
  subst he_
  have hs_ := hw_.symm
  clear hw_ HNb
  subst hs_
  go_wp2_with fail
  refine (HR1.out _ H7.out.so.sv.ls.am).mono ?_
  rintro e x8 ⟨rfl, hb_⟩
  have H8 := hid (H7.out.below hb_)
  clear hb_ H7 c0 c1 c2 c3 p0 p1 p2 p3 p4 p5
  obtain ⟨⟨c0, c1, c2, c3⟩, p0, p1, p2, p3, p4, p5⟩ := H8.out.cells
  go_wp2_with fail
  refine (HAd.out _).mono ?_
  rintro e x9 ⟨rfl, hb_⟩
  have H9 := hid (H8.out.below hb_)
  clear hb_ H8 c0 c1 c2 c3 p0 p1 p2 p3 p4 p5
  obtain ⟨⟨c0, c1, c2, c3⟩, p0, p1, p2, p3, p4, p5⟩ := H9.out.cells
  go_wp2_with fail
  refine (HR2.out _ H9.out.so.sv.ls.am).mono ?_
  rintro e x10 ⟨rfl, hb_⟩
  have H10 := hid (H9.out.below hb_)
  clear hb_ H9 c0 c1 c2 c3 p0 p1 p2 p3 p4 p5
  obtain ⟨⟨c0, c1, c2, c3⟩, p0, p1, p2, p3, p4, p5⟩ := H10.out.cells
  go_wp2_with fail
  refine (HD1.out _ H10.out.so.sv.ls.am).mono ?_
  rintro e x11 ⟨rfl, hb_⟩
  have H11 := hid (H10.out.below hb_)
  clear hb_ H10 c0 c1 c2 c3 p0 p1 p2 p3 p4 p5
  obtain ⟨⟨c0, c1, c2, c3⟩, p0, p1, p2, p3, p4, p5⟩ := H11.out.cells
  go_wp2_with fail
  refine (HAd.out _).mono ?_
  rintro e x12 ⟨rfl, hb_⟩
  have H12 := hid (H11.out.below hb_)
  clear hb_ H11 c0 c1 c2 c3 p0 p1 p2 p3 p4 p5
  obtain ⟨⟨c0, c1, c2, c3⟩, p0, p1, p2, p3, p4, p5⟩ := H12.out.cells
  go_wp2_with fail
  refine (HD2.out _ H12.out.so.sv.ls.am).mono ?_
  rintro e x13 ⟨rfl, hb_⟩
  have H13 := hid (H12.out.below hb_)
  clear hb_ H12 c0 c1 c2 c3 p0 p1 p2 p3 p4 p5
  obtain ⟨⟨c0, c1, c2, c3⟩, p0, p1, p2, p3, p4, p5⟩ := H13.out.cells
  have HF := hid H13.out.so
  clear H13 c0 c1 c2 c3 p0 p1 p2 p3 p4 p5 HR1 HR2 HD1 HD2 HAd
  go_wp2
  exact ⟨⟨j + 1, by go_num, by omega, HF⟩, by simp [intOf]; omega⟩

end Go.Proofs.Qxb6500887aGreat
