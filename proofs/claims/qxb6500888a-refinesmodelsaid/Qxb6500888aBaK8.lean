/- The abstract model: Step: write; every step but the pause (written by tools/mk_k8.py). -/
import Derived.Test.Qxb6500888aBaK7
namespace Go.Proofs.Qxb6500888a
open Go.RowKit
set_option linter.unusedSimpArgs false
set_option linter.unusedVariables false
attribute [local irreducible] wdC
section
variable {w w' : World} {ρ ρ' : Rl} {L L' : GL} {Y Y' : ML} {G G' : GS} {M M' : MS}
set_option maxRecDepth 1000000 in
set_option maxHeartbeats 8000000 in
theorem mstep_1 (h : MdM w ρ L Y G M) (ok : GOk G) (gb : GB G 90000000000) (kind m oa ob oc : Nat) (hob : OpB ⟨kind, m, oa, ob, oc⟩) (hk : kind = 1) (hm : m < 4) (hro : ∀ m obj, obj ∈ M.roots m → 65536 ≤ obj ∧ obj < 98304)  :
    Calls Try.prog 18 #[.pointer (some ⟨Y.mB, 0, none⟩), .agg (opC ⟨kind, m, oa, ob, oc⟩).toArray] w fun e w' => RzP w ρ L Y (mstepS G M ⟨kind, m, oa, ob, oc⟩) e w' := by
  have HK := hid hk
  clear hk
  have Hro := hid hro
  clear hro
  have HS0 := hid (SmS.start h ⟨kind, m, oa, ob, oc⟩)
  have I0 := hid info_rz
  have HOk := hid (And.intro ok gb)
  obtain ⟨b3, hb3⟩ : ∃ x, w.heap.size = x := ⟨_, rfl⟩
  have Hb3 := hid hb3
  have HB := hid hob
  rw [hb3] at HS0
  obtain ⟨res, hres⟩ : ∃ x, mstepS G M ⟨kind, m, oa, ob, oc⟩ = x := ⟨_, rfl⟩
  rw [hres]
  have Hres := hid hres
  clear h ok gb hob hres
  have e0 : (opC ⟨kind, m, oa, ob, oc⟩).toArray = #[.int .u8 (kind : Int), .int .u8 (m : Int), .int .u64 (oa : Int), .int .u64 (ob : Int), .int .u64 (oc : Int)] := rfl
  rw [e0] at HS0 ⊢
  clear e0
  go_enter Try.func18, Try.ntmps18
  go_upto_region 1 with fail
  have HS1 : Hid (SmS w ρ L Y b3 (b3 + 1) ⟨kind, m, oa, ob, oc⟩ G M L Y ρ ((w.alloc (.cells #[.int .u8 (kind : Int), .int .u8 (m : Int), .int .u64 (oa : Int), .int .u64 (ob : Int), .int .u64 (oc : Int)] 31)).alloc (.cells #[.int .u8 0, .int .u64 0, .slice none 0 0, .slice none 0 0, .slice none 0 0, .slice none 0 0, .slice none 0 0, .slice none 0 0, .slice none 0 0, .slice none 0 0] 38))) := hid HS0.out
  clear HS0
  try simp only [hb3]
  generalize (w.alloc (.cells #[.int .u8 (kind : Int), .int .u8 (m : Int), .int .u64 (oa : Int), .int .u64 (ob : Int), .int .u64 (oc : Int)] 31)).alloc (.cells #[.int .u8 0, .int .u64 0, .slice none 0 0, .slice none 0 0, .slice none 0 0, .slice none 0 0, .slice none 0 0, .slice none 0 0, .slice none 0 0, .slice none 0 0] 38) = w1 at HS1 ⊢
  clear hb3
  have k0 : w1.cell? ⟨b3, 0, none⟩ = some (.int .u8 (kind : Int)) := HS1.out.ob.cell 0
  have k1 : w1.cell? ⟨b3, 1, none⟩ = some (.int .u8 (m : Int)) := HS1.out.ob.cell 1
  have k2 : w1.cell? ⟨b3, 2, none⟩ = some (.int .u64 (oa : Int)) := HS1.out.ob.cell 2
  have k3 : w1.cell? ⟨b3, 3, none⟩ = some (.int .u64 (ob : Int)) := HS1.out.ob.cell 3
  have k4 : w1.cell? ⟨b3, 4, none⟩ = some (.int .u64 (oc : Int)) := HS1.out.ob.cell 4
  have hk := HK.out
  have hkk : ((kind : Int) == 1) = true := by simp; omega
  have d0 : ((kind : Int) == 0) = false := by simp; omega
  have d2 : ((kind : Int) == 2) = false := by simp; omega
  have d3 : ((kind : Int) == 3) = false := by simp; omega
  have d4 : ((kind : Int) == 4) = false := by simp; omega
  have d5 : ((kind : Int) == 5) = false := by simp; omega
  have d6 : ((kind : Int) == 6) = false := by simp; omega
  have d7 : ((kind : Int) == 7) = false := by simp; omega
  have d8 : ((kind : Int) == 8) = false := by simp; omega
  have d9 : ((kind : Int) == 9) = false := by simp; omega
  have g1 : decide ((kind : Int) ≥ 10) = false := decide_eq_false (by omega)
  have g2 : decide ((10 : Int) ≤ (kind : Int)) = false := decide_eq_false (by omega)
  have g3 : (kind : Int) < 10 := by omega
  have f1 : decide ((m : Int) ≥ 4) = false := decide_eq_false (by omega)
  have f2 : decide ((4 : Int) ≤ (m : Int)) = false := decide_eq_false (by omega)
  have f3 : (m : Int) < 4 := by omega
  clear hk
  have HX : Hid (mstepS G M ⟨kind, m, oa, ob, oc⟩ = mnamS G M ⟨kind, m, oa, ob, oc⟩) := hid (by unfold mstepS; dsimp only; rw [if_neg (by have := HK.out; omega), if_neg (by have := HK.out; omega), if_neg (by have := HK.out; omega), if_neg (by omega), if_neg (by have := HK.out; omega), if_neg (by have := HK.out; omega), if_neg (by have := HK.out; omega)])
  have HEn := hid (entry_walk HS1.out.md hm oa HB.out.a)
  have Hm := hid hm
  by_cases hin : oa < (M.roots m).length
  rotate_left
  · as_aux_lemma =>
    rw [if_neg hin] at HEn
    have HE := hid (show mstepS G M ⟨kind, m, oa, ob, oc⟩ = ((10, 0), G, M) by rw [HX.out]; unfold mnamS; dsimp only; rw [if_pos hin])
    clear hin
    go_wp2_with fail
    refine HEn.out.mono ?_
    rintro e2 w2 ⟨rfl, rfl⟩
    clear HEn
    have HRf := hid (mrefuse_walk 10 w2)
    go_wp2_with fail
    refine HRf.out.mono ?_
    rintro e7 w7 ⟨rfl, hb7⟩
    have HSt := hid (HS1.out.below hb7)
    clear HRf hb7 HS1 
    (try clear k0 k1 k2 k3 k4)
    (try clear k1 k2 k3 k4)
    go_wp2_with (refine wpList_store_blk rfl 38 _ _ rfl (b3 + 1) rfl (rzC 10 0) rfl HSt.out.rb rfl I0.out (rz_one 10 0) ?_; intro w9 HB9 HU9)
    exact bodyPost_ret (results_blk (cs := rzC 10 0) Try.results18 rfl aggRz HB9.out) rfl (by rw [← Hres.out, HE.out]; exact HSt.out.fin HU9.out 10 0)
  rw [if_pos hin] at HEn
  obtain ⟨obj, hobj⟩ : ∃ x, (M.roots m).getD ((M.roots m).length - 1 - oa) 0 = x := ⟨_, rfl⟩
  rw [hobj] at HEn
  have Hin := hid (And.intro hin hobj)
  have Hob := hid (Hro.out m obj (by rw [← hobj]; exact getD_mem (by omega)))
  clear hin hobj
  have HFl := hid (mfield_walk HS1.out.md HOk.out.1 obj ob HB.out.b)
  obtain ⟨fv, hfv⟩ : ∃ x, (mfieldS G obj ob).1 = x := ⟨_, rfl⟩
  obtain ⟨fc, hfc⟩ : ∃ x, (mfieldS G obj ob).2 = x := ⟨_, rfl⟩
  rw [hfv, hfc] at HFl
  have Hfc := hid (And.intro hfv hfc)
  have HFs : Hid (fc = 0 → ∃ s, 65536 + s = fv ∧ s < 32768) := hid (fun h0 => by
    rw [h0] at hfc
    unfold mfieldS at hfc hfv
    cases hh : G.head obj with
    | none => rw [hh] at hfc; cases hfc
    | some p =>
      obtain ⟨n', q'⟩ := p
      rw [hh] at hfc hfv
      dsimp only at hfc hfv
      have h1 := HOk.out.1.hd obj n' q' hh
      have h2 := offA_in h1.1
      by_cases hq : q' ≤ ob
      · rw [if_pos hq] at hfc; cases hfc
      · rw [if_neg hq] at hfv
        exact ⟨offA obj + 1 + ob, by rw [← hfv]; dsimp only; omega, by omega⟩)
  clear hfv hfc
  by_cases hc0 : oc = 0
  · as_aux_lemma =>
    subst hc0
    have k4' : w1.cell? ⟨b3, 4, none⟩ = some (.int .u64 0) := k4
    have Hcc : Hid (¬ ((0 : Nat) ≠ 0 ∧ ¬ 0 - 1 < (M.roots m).length) ∧ (if (0 : Nat) = 0 then 0 else (M.roots m).getD ((M.roots m).length - 1 - (0 - 1)) 0) = 0) := hid ⟨fun h => h.1 rfl, if_pos rfl⟩
    clear k4
    by_cases hfc0 : fc = 0
    rotate_left
    · as_aux_lemma =>
      have d1 : ((fc : Int) != 0) = true := by simp; omega
      have HE := hid (show mstepS G M ⟨kind, m, oa, ob, 0⟩ = ((fc, 0), G, M) by rw [HX.out]; unfold mnamS; dsimp only; rw [if_neg (fun h => h Hin.out.1), Hin.out.2, if_neg (by have := HK.out; omega), if_neg (by have := HK.out; omega), if_neg (by have := HK.out; omega), if_neg Hcc.out.1, if_pos (by rw [Hfc.out.2]; exact hfc0), Hfc.out.2])
      go_wp2_with fail
      refine HEn.out.mono ?_
      rintro e2 w2 ⟨rfl, rfl⟩
      clear HEn
      go_wp2_with fail
      refine HFl.out.mono ?_
      rintro e3 w3 ⟨rfl, hb3'⟩
      have HS3 := hid (HS1.out.below hb3')
      clear HFl hb3' HS1
      have HRf := hid (mrefuse_walk fc w3)
      go_wp2_with fail
      refine HRf.out.mono ?_
      rintro e7 w7 ⟨rfl, hb7⟩
      have HSt := hid (HS3.out.below hb7)
      clear HRf hb7 HS3 
      (try clear k0 k1 k2 k3 k4)
      (try clear k1 k2 k3 k4)
      go_wp2_with (refine wpList_store_blk rfl 38 _ _ rfl (b3 + 1) rfl (rzC fc 0) rfl HSt.out.rb rfl I0.out (rz_one fc 0) ?_; intro w9 HB9 HU9)
      exact bodyPost_ret (results_blk (cs := rzC fc 0) Try.results18 rfl aggRz HB9.out) rfl (by rw [← Hres.out, HE.out]; exact HSt.out.fin HU9.out fc 0)
    subst hfc0
    obtain ⟨s, hs1, hs2⟩ := HFs.out rfl
    have hoff : offA fv = s := by rw [← hs1]; exact offA_add s
    have HE := hid (show mstepS G M ⟨kind, m, oa, ob, 0⟩ = ((0, 0), { G with word := fup G.word s 0 }, if M.fr obj = true then M else { M with wr := fup M.wr fv true }) by rw [HX.out]; unfold mnamS; dsimp only; rw [if_neg (fun h => h Hin.out.1), Hin.out.2, if_neg (by have := HK.out; omega), if_neg (by have := HK.out; omega), if_neg (by have := HK.out; omega), if_neg Hcc.out.1, if_neg (fun h => h Hfc.out.2), Hcc.out.2, Hfc.out.1]; unfold mwrS; rw [hoff])
    have Hss := hid (And.intro hs1 hs2)
    clear hs1 hs2 hoff
    as_aux_lemma =>
    go_wp2_with fail
    refine HEn.out.mono ?_
    rintro e2 w2 ⟨rfl, rfl⟩
    clear HEn
    go_wp2_with fail
    refine HFl.out.mono ?_
    rintro e3 w3 ⟨rfl, hb3'⟩
    have HS3 := hid (HS1.out.below hb3')
    clear HFl hb3' HS1
    have c0 := HS3.out.md.cells.1
    have c7 := HS3.out.md.cells.2.2.2.2.2.2.1
    have c6 := HS3.out.md.cells.2.2.2.2.2.1
    have hlf := HS3.out.md.fm.look obj
    cases hfr : M.fr obj with
    | true =>
      as_aux_lemma =>
      rw [hfr] at hlf
      rw [if_pos hfr] at HE
      have HSr := hid (setRefAt_walk HS3.out.md.gm Hss.out.1 Hss.out.2 0)
      clear hfr
      go_wp2_with fail
      refine HSr.out.mono ?_
      rintro e4 w4 ⟨rfl, hg4, hf4⟩
      obtain ⟨L4, Y4, ρ4, hs4⟩ := HS3.out.mach (G' := { G with word := fup G.word s 0 }) (M' := M) ⟨L, Y, ρ, HS3.out.md.ground hg4 (GL.Same.refl _) hf4, rfl, GL.Same.refl _, hf4.mono (fun c => bX_g)⟩
      have HS4 := hid hs4
      clear HSr hg4 hf4 hs4 HS3 c0 c7 c6 hlf
      have HSt := hid HS4.out
      clear HS4 
      (try clear k0 k1 k2 k3 k4)
      (try clear k1 k2 k3 k4)
      go_wp2_with (refine wpList_store_blk rfl 38 _ _ rfl (b3 + 1) rfl (rzC 0 0) rfl HSt.out.rb rfl I0.out (rz_one 0 0) ?_; intro w9 HB9 HU9)
      exact bodyPost_ret (results_blk (cs := rzC 0 0) Try.results18 rfl aggRz HB9.out) rfl (by rw [← Hres.out, HE.out]; exact HSt.out.fin HU9.out 0 0)
    | false =>
      as_aux_lemma =>
      rw [hfr] at hlf
      rw [if_neg (by rw [hfr]; decide)] at HE
      obtain ⟨w5, hput, hb5, hu5⟩ := HS3.out.md.wm.put fv
      have h5 := HS3.out.md.setW hu5 hb5
      obtain ⟨L5, Y5, ρ5, hs5⟩ := HS3.out.mach (G' := G) (M' := { M with wr := fup M.wr fv true }) ⟨L, Y, ρ, h5.1, rfl, GL.Same.refl _, h5.2⟩
      have HM5 := hid h5.1
      have HS5 : Hid (SmS w ρ L Y b3 (b3 + 1) ⟨kind, m, oa, ob, 0⟩ G { M with wr := fup M.wr fv true } L Y ρ w5) := hid ⟨h5.1, h5.2.keep HS3.out.ob HS3.out.z1 rfl, h5.2.keep HS3.out.rb HS3.out.z2 rfl, HS3.out.z1, HS3.out.z2, HS3.out.fr.trans h5.2, HS3.out.yb, HS3.out.ls, HS3.out.l1, HS3.out.l2⟩
      have HSr := hid (setRefAt_walk HM5.out.gm Hss.out.1 Hss.out.2 0)
      have c0' := HM5.out.cells.1
      clear hfr hb5 hu5 h5 hs5
      go_wp2_with fail
      refine HSr.out.mono ?_
      rintro e4 w4 ⟨rfl, hg4, hf4⟩
      obtain ⟨L4, Y4, ρ4, hs4⟩ := HS5.out.mach (G' := { G with word := fup G.word s 0 }) (M' := { M with wr := fup M.wr fv true }) ⟨L, Y, ρ, HM5.out.ground hg4 (GL.Same.refl _) hf4, rfl, GL.Same.refl _, hf4.mono (fun c => bX_g)⟩
      have HS4 := hid hs4
      clear HSr hg4 hf4 hs4 HS3 c0 c7 c6 hlf hput HM5 HS5 c0'
      have HSt := hid HS4.out
      clear HS4 
      (try clear k0 k1 k2 k3 k4)
      (try clear k1 k2 k3 k4)
      go_wp2_with (refine wpList_store_blk rfl 38 _ _ rfl (b3 + 1) rfl (rzC 0 0) rfl HSt.out.rb rfl I0.out (rz_one 0 0) ?_; intro w9 HB9 HU9)
      exact bodyPost_ret (results_blk (cs := rzC 0 0) Try.results18 rfl aggRz HB9.out) rfl (by rw [← Hres.out, HE.out]; exact HSt.out.fin HU9.out 0 0)
  have dc : ((oc : Int) != 0) = true := by simp; omega
  obtain ⟨c1, hc1⟩ : ∃ c1, oc - 1 = c1 := ⟨_, rfl⟩
  have ic1 : (oc : Int) - 1 = (c1 : Int) := by omega
  have ic2 : (oc : Int) ≤ 18446744073709551615 := by have := HB.out.c; dsimp only at this; omega
  have HEc := hid (entry_walk HS1.out.md hm c1 (by have := HB.out.c; dsimp only at this; omega))
  have Hc1 := hid hc1
  clear hc1
  by_cases hin2 : c1 < (M.roots m).length
  rotate_left
  · as_aux_lemma =>
    rw [if_neg hin2] at HEc
    have HE := hid (show mstepS G M ⟨kind, m, oa, ob, oc⟩ = ((10, 0), G, M) by rw [HX.out]; unfold mnamS; dsimp only; rw [if_neg (fun h => h Hin.out.1), Hin.out.2, if_neg (by have := HK.out; omega), if_neg (by have := HK.out; omega), if_neg (by have := HK.out; omega), if_pos ⟨hc0, by rw [Hc1.out]; exact hin2⟩])
    clear hin2 HFl
    go_wp2_with fail
    refine HEn.out.mono ?_
    rintro e2 w2 ⟨rfl, rfl⟩
    clear HEn
    go_wp2_with fail
    refine HEc.out.mono ?_
    rintro e2 w2' ⟨rfl, rfl⟩
    clear HEc
    have HRf := hid (mrefuse_walk 10 w2')
    go_wp2_with fail
    refine HRf.out.mono ?_
    rintro e7 w7 ⟨rfl, hb7⟩
    have HSt := hid (HS1.out.below hb7)
    clear HRf hb7 HS1 
    (try clear k0 k1 k2 k3 k4)
    (try clear k1 k2 k3 k4)
    go_wp2_with (refine wpList_store_blk rfl 38 _ _ rfl (b3 + 1) rfl (rzC 10 0) rfl HSt.out.rb rfl I0.out (rz_one 10 0) ?_; intro w9 HB9 HU9)
    exact bodyPost_ret (results_blk (cs := rzC 10 0) Try.results18 rfl aggRz HB9.out) rfl (by rw [← Hres.out, HE.out]; exact HSt.out.fin HU9.out 10 0)
  rw [if_pos hin2] at HEc
  obtain ⟨ref, href⟩ : ∃ x, (M.roots m).getD ((M.roots m).length - 1 - c1) 0 = x := ⟨_, rfl⟩
  rw [href] at HEc
  have Hcc : Hid (¬ (oc ≠ 0 ∧ ¬ oc - 1 < (M.roots m).length) ∧ (if oc = 0 then 0 else (M.roots m).getD ((M.roots m).length - 1 - (oc - 1)) 0) = ref) := hid ⟨fun h => h.2 (by rw [Hc1.out]; exact hin2), by rw [if_neg hc0, Hc1.out, href]⟩
  clear hin2 href
  by_cases hfc0 : fc = 0
  rotate_left
  · as_aux_lemma =>
    have d1 : ((fc : Int) != 0) = true := by simp; omega
    have HE := hid (show mstepS G M ⟨kind, m, oa, ob, oc⟩ = ((fc, 0), G, M) by rw [HX.out]; unfold mnamS; dsimp only; rw [if_neg (fun h => h Hin.out.1), Hin.out.2, if_neg (by have := HK.out; omega), if_neg (by have := HK.out; omega), if_neg (by have := HK.out; omega), if_neg Hcc.out.1, if_pos (by rw [Hfc.out.2]; exact hfc0), Hfc.out.2])
    go_wp2_with fail
    refine HEn.out.mono ?_
    rintro e2 w2 ⟨rfl, rfl⟩
    clear HEn
    go_wp2_with fail
    refine HEc.out.mono ?_
    rintro e2 w2' ⟨rfl, rfl⟩
    clear HEc
    go_wp2_with fail
    refine HFl.out.mono ?_
    rintro e3 w3 ⟨rfl, hb3'⟩
    have HS3 := hid (HS1.out.below hb3')
    clear HFl hb3' HS1
    have HRf := hid (mrefuse_walk fc w3)
    go_wp2_with fail
    refine HRf.out.mono ?_
    rintro e7 w7 ⟨rfl, hb7⟩
    have HSt := hid (HS3.out.below hb7)
    clear HRf hb7 HS3 
    (try clear k0 k1 k2 k3 k4)
    (try clear k1 k2 k3 k4)
    go_wp2_with (refine wpList_store_blk rfl 38 _ _ rfl (b3 + 1) rfl (rzC fc 0) rfl HSt.out.rb rfl I0.out (rz_one fc 0) ?_; intro w9 HB9 HU9)
    exact bodyPost_ret (results_blk (cs := rzC fc 0) Try.results18 rfl aggRz HB9.out) rfl (by rw [← Hres.out, HE.out]; exact HSt.out.fin HU9.out fc 0)
  subst hfc0
  obtain ⟨s, hs1, hs2⟩ := HFs.out rfl
  have hoff : offA fv = s := by rw [← hs1]; exact offA_add s
  have HE := hid (show mstepS G M ⟨kind, m, oa, ob, oc⟩ = ((0, 0), { G with word := fup G.word s ref }, if M.fr obj = true then M else { M with wr := fup M.wr fv true }) by rw [HX.out]; unfold mnamS; dsimp only; rw [if_neg (fun h => h Hin.out.1), Hin.out.2, if_neg (by have := HK.out; omega), if_neg (by have := HK.out; omega), if_neg (by have := HK.out; omega), if_neg Hcc.out.1, if_neg (fun h => h Hfc.out.2), Hcc.out.2, Hfc.out.1]; unfold mwrS; rw [hoff])
  have Hss := hid (And.intro hs1 hs2)
  clear hs1 hs2 hoff
  as_aux_lemma =>
  go_wp2_with fail
  refine HEn.out.mono ?_
  rintro e2 w2 ⟨rfl, rfl⟩
  clear HEn
  go_wp2_with fail
  refine HEc.out.mono ?_
  rintro e2 w2' ⟨rfl, rfl⟩
  clear HEc
  go_wp2_with fail
  refine HFl.out.mono ?_
  rintro e3 w3 ⟨rfl, hb3'⟩
  have HS3 := hid (HS1.out.below hb3')
  clear HFl hb3' HS1
  have c0 := HS3.out.md.cells.1
  have c7 := HS3.out.md.cells.2.2.2.2.2.2.1
  have c6 := HS3.out.md.cells.2.2.2.2.2.1
  have hlf := HS3.out.md.fm.look obj
  cases hfr : M.fr obj with
  | true =>
    as_aux_lemma =>
    rw [hfr] at hlf
    rw [if_pos hfr] at HE
    have HSr := hid (setRefAt_walk HS3.out.md.gm Hss.out.1 Hss.out.2 ref)
    clear hfr
    go_wp2_with fail
    refine HSr.out.mono ?_
    rintro e4 w4 ⟨rfl, hg4, hf4⟩
    obtain ⟨L4, Y4, ρ4, hs4⟩ := HS3.out.mach (G' := { G with word := fup G.word s ref }) (M' := M) ⟨L, Y, ρ, HS3.out.md.ground hg4 (GL.Same.refl _) hf4, rfl, GL.Same.refl _, hf4.mono (fun c => bX_g)⟩
    have HS4 := hid hs4
    clear HSr hg4 hf4 hs4 HS3 c0 c7 c6 hlf
    have HSt := hid HS4.out
    clear HS4 
    (try clear k0 k1 k2 k3 k4)
    (try clear k1 k2 k3 k4)
    go_wp2_with (refine wpList_store_blk rfl 38 _ _ rfl (b3 + 1) rfl (rzC 0 0) rfl HSt.out.rb rfl I0.out (rz_one 0 0) ?_; intro w9 HB9 HU9)
    exact bodyPost_ret (results_blk (cs := rzC 0 0) Try.results18 rfl aggRz HB9.out) rfl (by rw [← Hres.out, HE.out]; exact HSt.out.fin HU9.out 0 0)
  | false =>
    as_aux_lemma =>
    rw [hfr] at hlf
    rw [if_neg (by rw [hfr]; decide)] at HE
    obtain ⟨w5, hput, hb5, hu5⟩ := HS3.out.md.wm.put fv
    have h5 := HS3.out.md.setW hu5 hb5
    obtain ⟨L5, Y5, ρ5, hs5⟩ := HS3.out.mach (G' := G) (M' := { M with wr := fup M.wr fv true }) ⟨L, Y, ρ, h5.1, rfl, GL.Same.refl _, h5.2⟩
    have HM5 := hid h5.1
    have HS5 : Hid (SmS w ρ L Y b3 (b3 + 1) ⟨kind, m, oa, ob, oc⟩ G { M with wr := fup M.wr fv true } L Y ρ w5) := hid ⟨h5.1, h5.2.keep HS3.out.ob HS3.out.z1 rfl, h5.2.keep HS3.out.rb HS3.out.z2 rfl, HS3.out.z1, HS3.out.z2, HS3.out.fr.trans h5.2, HS3.out.yb, HS3.out.ls, HS3.out.l1, HS3.out.l2⟩
    have HSr := hid (setRefAt_walk HM5.out.gm Hss.out.1 Hss.out.2 ref)
    have c0' := HM5.out.cells.1
    clear hfr hb5 hu5 h5 hs5
    go_wp2_with fail
    refine HSr.out.mono ?_
    rintro e4 w4 ⟨rfl, hg4, hf4⟩
    obtain ⟨L4, Y4, ρ4, hs4⟩ := HS5.out.mach (G' := { G with word := fup G.word s ref }) (M' := { M with wr := fup M.wr fv true }) ⟨L, Y, ρ, HM5.out.ground hg4 (GL.Same.refl _) hf4, rfl, GL.Same.refl _, hf4.mono (fun c => bX_g)⟩
    have HS4 := hid hs4
    clear HSr hg4 hf4 hs4 HS3 c0 c7 c6 hlf hput HM5 HS5 c0'
    have HSt := hid HS4.out
    clear HS4 
    (try clear k0 k1 k2 k3 k4)
    (try clear k1 k2 k3 k4)
    go_wp2_with (refine wpList_store_blk rfl 38 _ _ rfl (b3 + 1) rfl (rzC 0 0) rfl HSt.out.rb rfl I0.out (rz_one 0 0) ?_; intro w9 HB9 HU9)
    exact bodyPost_ret (results_blk (cs := rzC 0 0) Try.results18 rfl aggRz HB9.out) rfl (by rw [← Hres.out, HE.out]; exact HSt.out.fin HU9.out 0 0)
/-- Every step but the pause. -/
theorem mstep_walk (h : MdM w ρ L Y G M) (ok : GOk G) (gb : GB G 90000000000) (o : OpP) (hob : OpB o) (h7 : o.kind ≠ 7) (hro : ∀ m obj, obj ∈ M.roots m → 65536 ≤ obj ∧ obj < 98304) :
    Calls Try.prog 18 #[.pointer (some ⟨Y.mB, 0, none⟩), .agg (opC o).toArray] w fun e w' => RzP w ρ L Y (mstepS G M o) e w' := by
  obtain ⟨kind, m, oa, ob, oc⟩ := o
  have h7' : kind ≠ 7 := h7
  by_cases h8 : kind = 8
  · exact mstep_8 h ok gb kind m oa ob oc hob h8
  by_cases h9 : kind = 9
  · exact mstep_9 h ok gb kind m oa ob oc hob h9
  by_cases h10 : 10 ≤ kind
  · exact mstep_hi h ok gb kind m oa ob oc hob h10
  by_cases hm : 4 ≤ m
  · exact mstep_m h ok gb kind m oa ob oc hob (by omega) hm
  have hm' : m < 4 := by omega
  rcases (by omega : kind = 0 ∨ kind = 1 ∨ kind = 2 ∨ kind = 3 ∨ kind = 4 ∨ kind = 5 ∨ kind = 6) with e | e | e | e | e | e | e
  · exact mstep_0 h ok gb kind m oa ob oc hob e hm'
  · exact mstep_1 h ok gb kind m oa ob oc hob e hm' hro
  · exact mstep_2 h ok gb kind m oa ob oc hob e hm' hro
  · exact mstep_3 h ok gb kind m oa ob oc hob e hm' hro
  · exact mstep_4 h ok gb kind m oa ob oc hob e hm'
  · exact mstep_5 h ok gb kind m oa ob oc hob e hm' hro
  · exact mstep_6 h ok gb kind m oa ob oc hob e hm'
end
end Go.Proofs.Qxb6500888a
