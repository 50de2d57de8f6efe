/- The abstract model: alloc, wild. -/
import Derived.Test.Qxb6500888aBaK2
namespace Go.Proofs.Qxb6500888a
open Go.RowKit
set_option linter.unusedSimpArgs false
set_option linter.unusedVariables false
attribute [local irreducible] wdC

/-- The model's state and its ground, a code and a value. -/
def RzP (w : World) (ρ : Rl) (L : GL) (Y : ML) (r : (Nat × Nat) × GS × MS) (e : Ending) (w' : World) : Prop := e = .returned (.agg (rzC r.1.1 r.1.2).toArray) ∧ MdR w ρ L Y r.2.1 r.2.2 w'
def mnewG (G : GS) (s n q : Nat) : GS := { G with tk := fillF G.tk s (1 + n) true, head := fup G.head (65536 + s) (some (n, q)), word := fillF G.word s (n + 1) 0 }
def malocS (G : GS) (M : MS) (m sz rf : Nat) : (Nat × Nat) × GS × MS :=
  if (M.roots m).length = 64 then ((8, 0), G, M) else if sz < 1 ∨ 8192 < sz then ((5, 0), G, M) else if sz < rf then ((6, 0), G, M) else
  match placeA G.tk (1 + sz) with
  | none => ((7, 0), G, M)
  | some s => ((0, 65536 + s), mnewG G s sz rf, mpush { M with fr := fup M.fr (65536 + s) true } m (65536 + s))
section
variable {w w' : World} {ρ ρ' : Rl} {L L' : GL} {Y Y' : ML} {G G' : GS} {M M' : MS}
theorem MdM.setF (h : MdM w ρ L Y G M) {f : Nat → Bool} (hu : Upd Y.mF w w') (hm : BF w' Y.mF f) : MdM w' ρ L Y G { M with fr := f } ∧ Fr bX ρ w ρ w' := by
  have hf : Fr (fun r => r == 20) ρ w ρ w' := Fr.upd hu (by show (ρ Y.mF == 20) = true; rw [h.rf]; rfl)
  refine ⟨⟨(GMh.but h.gm hf).full (fun c hc => ?_), hf.keep h.mb h.rm rfl, h.rm, fun m hm' => (h.rt m hm').fr hf ?_, h.lr.fr hf rfl, hf.keep h.ab h.ra rfl, h.ra, MF.of h.wm (hf.blk _ (MF.lt h.wm) (by rw [h.rw_]; rfl)), h.rw_, hm, h.rf, h.rl⟩, hf.mono (fun c => bX_of (by decide))⟩
  · have := of_decide_eq_true hc
    show (c == 20) = false
    simp
    omega
  · show (16 + m == 20) = false
    simp
    omega
theorem MdM.setW (h : MdM w ρ L Y G M) {f : Nat → Bool} (hu : Upd Y.mW w w') (hm : BF w' Y.mW f) : MdM w' ρ L Y G { M with wr := f } ∧ Fr bX ρ w ρ w' := by
  have hf : Fr (fun r => r == 15) ρ w ρ w' := Fr.upd hu (by show (ρ Y.mW == 15) = true; rw [h.rw_]; rfl)
  refine ⟨⟨(GMh.but h.gm hf).full (fun c hc => ?_), hf.keep h.mb h.rm rfl, h.rm, fun m hm' => (h.rt m hm').fr hf ?_, h.lr.fr hf rfl, hf.keep h.ab h.ra rfl, h.ra, hm, h.rw_, MF.of h.fm (hf.blk _ (MF.lt h.fm) (by rw [h.rf]; rfl)), h.rf, h.rl⟩, hf.mono (fun c => bX_of (by decide))⟩
  · have := of_decide_eq_true hc
    show (c == 15) = false
    simp
    omega
  · show (16 + m == 15) = false
    simp
    omega
set_option maxRecDepth 1000000 in
set_option maxHeartbeats 8000000 in
theorem maloc_walk (h : MdM w ρ L Y G M) {m : Nat} (hm : m < 4) (sz rf : Nat) (h1 : sz < 18446744073709551616) (h2 : rf < 18446744073709551616) :
    Calls Try.prog 60 #[.pointer (some ⟨Y.mB, 0, none⟩), .int .i64 (m : Int), .int .u64 (sz : Int), .int .u64 (rf : Int)] w fun e w' => RzP w ρ L Y (malocS G M m sz rf) e w' := by
  obtain ⟨r, hr⟩ : ∃ r, w.heap.size = r := ⟨_, rfl⟩
  have I0 := hid info_rz
  obtain ⟨wa, hwa⟩ : ∃ x, w.alloc (.cells (rzC 0 0).toArray 38) = x := ⟨_, rfl⟩
  have HBa : Hid (Below w.heap.size w wa ∧ Blk wa r 38 (rzC 0 0) ∧ ρ r = 0) := hid (by
    rw [← hwa]
    have hb := Blk.new w (rzC 0 0) 38
    rw [hr] at hb
    refine ⟨nbel w _, hb, Classical.byContradiction fun hc => ?_⟩
    have := h.gm.dom r hc
    omega)
  have HA := hid (h.below HBa.out.1)
  have hwa' : w.alloc (.cells #[.int .u8 0, .int .u64 0, .slice none 0 0, .slice none 0 0, .slice none 0 0, .slice none 0 0, .slice none 0 0, .slice none 0 0, .slice none 0 0, .slice none 0 0] 38) = wa := hwa
  have c1 := HA.out.rcell hm
  obtain ⟨ax, k, hv⟩ := (HA.out.rt m hm).shape
  have hl := HA.out.rl m
  obtain ⟨n, hn⟩ : ∃ n, (M.roots m).length = n := ⟨_, rfl⟩
  rw [hn] at hv hl
  rw [hv] at c1
  have im : (m : Int) < 4 := by omega
  have il : (n : Int) ≤ 64 := by omega
  have Hn := hid hn
  have Hm := hid hm
  have Hrr := hid hr
  have HEnd : Hid (∀ c wx wy, Below wa.heap.size wa wx → malocS G M m sz rf = ((c, 0), G, M) → Upd r wx wy → RzP w ρ L Y (malocS G M m sz rf) (.returned (.agg (rzC c 0).toArray)) wy) := hid (fun c wx wy hx he hu => by
    rw [he]
    have hb1 := HBa.out.1.trans (hx.mono HBa.out.1.size)
    have hb2 := hb1.trans (hu.below (by have := Hrr.out; omega) hb1.size)
    exact ⟨rfl, h.same hb2⟩)
  clear h hn hv hm hwa
  by_cases hn64 : n = 64
  · as_aux_lemma =>
    subst hn64
    have HE := hid (show malocS G M m sz rf = ((8, 0), G, M) by unfold malocS; rw [if_pos Hn.out])
    clear h1 h2
    go_enter Try.func60, Try.ntmps60
    go_upto_region 1 with fail
    try simp only [hwa', hr]
    clear hwa' hr
    go_wp2_with fail
    refine (mrefuse_walk 8 _).mono ?_
    rintro e wx ⟨rfl, hbx⟩
    have HZ := hid (HBa.out.2.1.below hbx)
    have Hbx := hid hbx
    clear hbx c1
    go_wp2_with (refine wpList_store_blk rfl 38 _ _ rfl r rfl (rzC 8 0) rfl HZ.out rfl I0.out (rz_one 8 0) ?_; intro w9 HB9 HU9)
    exact bodyPost_ret (results_blk (cs := rzC 8 0) Try.results60 rfl aggRz HB9.out) rfl (HEnd.out 8 wx w9 Hbx.out HE.out HU9.out)
  have d64 : ((n : Int) == 64) = false := by simp; omega
  have hnl : ¬ (M.roots m).length = 64 := by rw [Hn.out]; exact hn64
  by_cases h5 : sz < 1 ∨ 8192 < sz
  · as_aux_lemma =>
    have HE := hid (show malocS G M m sz rf = ((5, 0), G, M) by unfold malocS; rw [if_neg hnl, if_pos h5])
    clear h1 h2 hnl
    go_enter Try.func60, Try.ntmps60
    go_upto_region 1 with fail
    try simp only [hwa', hr]
    clear hwa' hr
    by_cases h51 : sz < 1
    · obtain rfl : sz = 0 := by omega
      go_wp2_with fail
      refine (mrefuse_walk 5 _).mono ?_
      rintro e wx ⟨rfl, hbx⟩
      have HZ := hid (HBa.out.2.1.below hbx)
      have Hbx := hid hbx
      clear hbx c1
      go_wp2_with (refine wpList_store_blk rfl 38 _ _ rfl r rfl (rzC 5 0) rfl HZ.out rfl I0.out (rz_one 5 0) ?_; intro w9 HB9 HU9)
      exact bodyPost_ret (results_blk (cs := rzC 5 0) Try.results60 rfl aggRz HB9.out) rfl (HEnd.out 5 wx w9 Hbx.out HE.out HU9.out)
    · have d1 : decide ((sz : Int) < 1) = false := decide_eq_false (by omega)
      have d2 : decide ((sz : Int) > 8192) = true := decide_eq_true (by omega)
      have d3 : decide ((8192 : Int) < (sz : Int)) = true := decide_eq_true (by omega)
      have d4 : (8192 : Int) < (sz : Int) := by omega
      have d5 : ¬ ((sz : Int) < 1) := by omega
      go_wp2_with fail
      refine (mrefuse_walk 5 _).mono ?_
      rintro e wx ⟨rfl, hbx⟩
      have HZ := hid (HBa.out.2.1.below hbx)
      have Hbx := hid hbx
      clear hbx c1
      go_wp2_with (refine wpList_store_blk rfl 38 _ _ rfl r rfl (rzC 5 0) rfl HZ.out rfl I0.out (rz_one 5 0) ?_; intro w9 HB9 HU9)
      exact bodyPost_ret (results_blk (cs := rzC 5 0) Try.results60 rfl aggRz HB9.out) rfl (HEnd.out 5 wx w9 Hbx.out HE.out HU9.out)
  have d1 : decide ((sz : Int) < 1) = false := decide_eq_false (by omega)
  have d2 : decide ((sz : Int) > 8192) = false := decide_eq_false (by omega)
  have d3 : decide ((8192 : Int) < (sz : Int)) = false := decide_eq_false (by omega)
  have d4 : (sz : Int) ≤ 8192 := by omega
  have d5 : (1 : Int) ≤ (sz : Int) := by omega
  by_cases h6 : sz < rf
  · as_aux_lemma =>
    have HE := hid (show malocS G M m sz rf = ((6, 0), G, M) by unfold malocS; rw [if_neg hnl, if_neg h5, if_pos h6])
    have g1 : decide ((rf : Int) > (sz : Int)) = true := decide_eq_true (by omega)
    have g2 : decide ((sz : Int) < (rf : Int)) = true := decide_eq_true (by omega)
    have g3 : (sz : Int) < (rf : Int) := by omega
    clear h1 h2 hnl h5
    go_enter Try.func60, Try.ntmps60
    go_upto_region 1 with fail
    try simp only [hwa', hr]
    clear hwa' hr
    go_wp2_with fail
    refine (mrefuse_walk 6 _).mono ?_
    rintro e wx ⟨rfl, hbx⟩
    have HZ := hid (HBa.out.2.1.below hbx)
    have Hbx := hid hbx
    clear hbx c1
    go_wp2_with (refine wpList_store_blk rfl 38 _ _ rfl r rfl (rzC 6 0) rfl HZ.out rfl I0.out (rz_one 6 0) ?_; intro w9 HB9 HU9)
    exact bodyPost_ret (results_blk (cs := rzC 6 0) Try.results60 rfl aggRz HB9.out) rfl (HEnd.out 6 wx w9 Hbx.out HE.out HU9.out)
  have g1 : decide ((rf : Int) > (sz : Int)) = false := decide_eq_false (by omega)
  have g2 : decide ((sz : Int) < (rf : Int)) = false := decide_eq_false (by omega)
  have g3 : (rf : Int) ≤ (sz : Int) := by omega
  have HX : Hid (malocS G M m sz rf = match placeA G.tk (1 + sz) with | none => ((7, 0), G, M) | some s => ((0, 65536 + s), mnewG G s sz rf, mpush { M with fr := fup M.fr (65536 + s) true } m (65536 + s))) := hid (by unfold malocS; rw [if_neg hnl, if_neg h5, if_neg h6])
  have HSp := hid (spAlloc_walk HA.out.gm (1 + sz) (by omega) (by omega))
  rw [show ((1 + sz : Nat) : Int) = 1 + (sz : Int) by omega] at HSp
  have c2 := HA.out.cells.2.1
  clear h1 h2 h5
  go_enter Try.func60, Try.ntmps60
  go_upto_region 1 with fail
  try simp only [hwa', hr]
  clear hwa' hr
  go_wp2_with fail
  refine HSp.out.mono ?_
  intro e2 w2 hsp
  unfold SpP at hsp
  cases hpl : placeA G.tk (1 + sz) with
  | none =>
    rw [hpl] at hsp
    obtain ⟨rfl, rfl⟩ := hsp
    as_aux_lemma =>
    have HE := hid (show malocS G M m sz rf = ((7, 0), G, M) by rw [HX.out, hpl])
    clear hpl HX HSp
    go_wp2_with fail
    refine (mrefuse_walk 7 _).mono ?_
    rintro e wx ⟨rfl, hbx⟩
    have HZ := hid (HBa.out.2.1.below hbx)
    have Hbx := hid hbx
    clear hbx c1 c2
    go_wp2_with (refine wpList_store_blk rfl 38 _ _ rfl r rfl (rzC 7 0) rfl HZ.out rfl I0.out (rz_one 7 0) ?_; intro w9 HB9 HU9)
    exact bodyPost_ret (results_blk (cs := rzC 7 0) Try.results60 rfl aggRz HB9.out) rfl (HEnd.out 7 wx w9 Hbx.out HE.out HU9.out)
  | some s =>
    rw [hpl] at hsp
    obtain ⟨rfl, hm2, hf2⟩ := hsp
    as_aux_lemma =>
    have hps := placeA_some hpl
    rw [hpl] at HX
    obtain ⟨a, ha⟩ : ∃ a, 65536 + s = a := ⟨_, rfl⟩
    have Ha := hid ha
    rw [ha]
    dsimp only at HX
    have HM2 := hid (HA.out.ground hm2 (GL.Same.refl _) hf2)
    have HF2 : Hid (Fr bX ρ wa ρ w2) := hid (hf2.mono (fun c => bX_g))
    have HZ2 := hid (hf2.keep HBa.out.2.1 HBa.out.2.2 rfl)
    have c3 := HM2.out.cells.1
    have H3 := hid (format_walk HM2.out.gm ha sz rf (by omega))
    have ia : (a : Int) < 98304 := by omega
    clear hm2 hf2 HSp c2 hpl ha hps
    go_wp2_with fail
    refine H3.out.mono ?_
    rintro e3 w3 ⟨rfl, hm3, hf3⟩
    have HM3 := hid (HM2.out.ground hm3 (GL.Same.refl _) hf3)
    have HF3 := hid (HF2.out.trans (hf3.mono (fun c => bX_g)))
    have HZ3 := hid (hf3.keep HZ2.out HBa.out.2.2 rfl)
    clear H3 hm3 hf3 HM2 HF2 c3 HZ2
    have c4 := HM3.out.cells.2.2.2.2.2.2.1
    obtain ⟨w4, hput, hb4, hu4⟩ := HM3.out.fm.put a
    have HM4 := hid (HM3.out.setF hu4 hb4)
    have HF4 := hid (HF3.out.trans HM4.out.2)
    have HZ4 : Hid (Blk w4 r 38 (rzC 0 0)) := hid (HM4.out.2.keep HZ3.out HBa.out.2.2 rfl)
    have HPu := hid (mpush_walk HM4.out.1 Hm.out a)
    clear hb4 hu4 HM3 HF3 HZ3
    go_wp2_with fail
    refine HPu.out.mono ?_
    intro e5 w5 h5
    unfold MuP at h5
    rw [if_neg (by exact hnl)] at h5
    obtain ⟨rfl, L5, Y5, ρ5, hm5, hy5, hl5, hf5⟩ := h5
    have HM5 := hid hm5
    have HF5 := hid (HF4.out.trans hf5)
    have HZ5 := hid (hf5.keep HZ4.out HBa.out.2.2 rfl)
    have HY5 := hid (And.intro hy5 hl5)
    clear hm5 hf5 hy5 hl5 HPu HF4 HZ4 HM4 hput c4
    go_wp2_with fail
    refine (mvalue_walk a _).mono ?_
    rintro e wx ⟨rfl, hbx⟩
    have HZ := hid (HZ5.out.below hbx)
    have Hbx := hid hbx
    clear hbx
    go_wp2_with (refine wpList_store_blk rfl 38 _ _ rfl r rfl (rzC 0 a) rfl HZ.out rfl I0.out (rz_one 0 a) ?_; intro w9 HB9 HU9)
    refine bodyPost_ret (results_blk (cs := rzC 0 a) Try.results60 rfl aggRz HB9.out) rfl ?_
    rw [HX.out]
    refine ⟨by rw [Ha.out], ?_⟩
    have hz : ρ5 r = 0 := by rw [HF5.out.old _ HBa.out.2.1.lt]; exact HBa.out.2.2
    have hb1 : Fr (fun c => c == 0) ρ5 w5 ρ5 w9 := (Fr.below Hbx.out).trans (Fr.upd HU9.out (by show (ρ5 r == 0) = true; rw [hz]; rfl))
    refine ⟨L5, Y5, ρ5, ?_, HY5.out.1, HY5.out.2, ?_⟩
    · have h1 := HM5.out.keep hb1 (fun c hc => by
        have := of_decide_eq_true hc
        show (c == 0) = false
        simp
        omega)
      rw [Ha.out]
      unfold mnewG
      rw [Ha.out]
      exact h1
    · have h1 := (Fr.below HBa.out.1 : Fr bX ρ w ρ wa).trans (HF5.out.trans (Fr.below Hbx.out : Fr bX ρ5 w5 ρ5 wx))
      exact h1.new HU9.out (by have := Hrr.out; omega)
end
end Go.Proofs.Qxb6500888a
