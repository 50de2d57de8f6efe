/- The abstract model: Step: the steps that name an object (written by tools/mk_k7.py). -/
import Derived.Test.Qxb6500888aBaK6
namespace Go.Proofs.Qxb6500888a
open Go.RowKit
set_option linter.unusedSimpArgs false
set_option linter.unusedVariables false
attribute [local irreducible] wdC
section
variable {w w' : World} {ρ ρ' : Rl} {L L' : GL} {Y Y' : ML} {G G' : GS} {M M' : MS}
set_option maxRecDepth 1000000 in
set_option maxHeartbeats 8000000 in
theorem mstep_3 (h : MdM w ρ L Y G M) (ok : GOk G) (gb : GB G 90000000000) (kind m oa ob oc : Nat) (hob : OpB ⟨kind, m, oa, ob, oc⟩) (hk : kind = 3) (hm : m < 4) (hro : ∀ m obj, obj ∈ M.roots m → 65536 ≤ obj ∧ obj < 98304)  :
    Calls Try.prog 18 #[.pointer (some ⟨Y.mB, 0, none⟩), .agg (opC ⟨kind, m, oa, ob, oc⟩).toArray] w fun e w' => RzP w ρ L Y (mstepS G M ⟨kind, m, oa, ob, oc⟩) e w' := by
  have HK := hid hk
  clear hk
  have Hro := hid hro
  clear hro
  have HS0 := hid (SmS.start h ⟨kind, m, oa, ob, oc⟩)
  have I0 := hid info_rz
  have HOk := hid (And.intro ok gb)
  obtain ⟨b3, hb3⟩ : ∃ x, w.heap.size = x := ⟨_, rfl⟩
  have Hb3 := hid hb3
  have HB := hid hob
  rw [hb3] at HS0
  obtain ⟨res, hres⟩ : ∃ x, mstepS G M ⟨kind, m, oa, ob, oc⟩ = x := ⟨_, rfl⟩
  rw [hres]
  have Hres := hid hres
  clear h ok gb hob hres
  have e0 : (opC ⟨kind, m, oa, ob, oc⟩).toArray = #[.int .u8 (kind : Int), .int .u8 (m : Int), .int .u64 (oa : Int), .int .u64 (ob : Int), .int .u64 (oc : Int)] := rfl
  rw [e0] at HS0 ⊢
  clear e0
  go_enter Try.func18, Try.ntmps18
  go_upto_region 1 with fail
  have HS1 : Hid (SmS w ρ L Y b3 (b3 + 1) ⟨kind, m, oa, ob, oc⟩ G M L Y ρ ((w.alloc (.cells #[.int .u8 (kind : Int), .int .u8 (m : Int), .int .u64 (oa : Int), .int .u64 (ob : Int), .int .u64 (oc : Int)] 31)).alloc (.cells #[.int .u8 0, .int .u64 0, .slice none 0 0, .slice none 0 0, .slice none 0 0, .slice none 0 0, .slice none 0 0, .slice none 0 0, .slice none 0 0, .slice none 0 0] 38))) := hid HS0.out
  clear HS0
  try simp only [hb3]
  generalize (w.alloc (.cells #[.int .u8 (kind : Int), .int .u8 (m : Int), .int .u64 (oa : Int), .int .u64 (ob : Int), .int .u64 (oc : Int)] 31)).alloc (.cells #[.int .u8 0, .int .u64 0, .slice none 0 0, .slice none 0 0, .slice none 0 0, .slice none 0 0, .slice none 0 0, .slice none 0 0, .slice none 0 0, .slice none 0 0] 38) = w1 at HS1 ⊢
  clear hb3
  have k0 : w1.cell? ⟨b3, 0, none⟩ = some (.int .u8 (kind : Int)) := HS1.out.ob.cell 0
  have k1 : w1.cell? ⟨b3, 1, none⟩ = some (.int .u8 (m : Int)) := HS1.out.ob.cell 1
  have k2 : w1.cell? ⟨b3, 2, none⟩ = some (.int .u64 (oa : Int)) := HS1.out.ob.cell 2
  have k3 : w1.cell? ⟨b3, 3, none⟩ = some (.int .u64 (ob : Int)) := HS1.out.ob.cell 3
  have k4 : w1.cell? ⟨b3, 4, none⟩ = some (.int .u64 (oc : Int)) := HS1.out.ob.cell 4
  have hk := HK.out
  have hkk : ((kind : Int) == 3) = true := by simp; omega
  have d0 : ((kind : Int) == 0) = false := by simp; omega
  have d4 : ((kind : Int) == 4) = false := by simp; omega
  have d6 : ((kind : Int) == 6) = false := by simp; omega
  have d7 : ((kind : Int) == 7) = false := by simp; omega
  have d8 : ((kind : Int) == 8) = false := by simp; omega
  have d9 : ((kind : Int) == 9) = false := by simp; omega
  have g1 : decide ((kind : Int) ≥ 10) = false := decide_eq_false (by omega)
  have g2 : decide ((10 : Int) ≤ (kind : Int)) = false := decide_eq_false (by omega)
  have g3 : (kind : Int) < 10 := by omega
  have f1 : decide ((m : Int) ≥ 4) = false := decide_eq_false (by omega)
  have f2 : decide ((4 : Int) ≤ (m : Int)) = false := decide_eq_false (by omega)
  have f3 : (m : Int) < 4 := by omega
  clear hk
  have HX : Hid (mstepS G M ⟨kind, m, oa, ob, oc⟩ = mnamS G M ⟨kind, m, oa, ob, oc⟩) := hid (by unfold mstepS; dsimp only; rw [if_neg (by have := HK.out; omega), if_neg (by have := HK.out; omega), if_neg (by have := HK.out; omega), if_neg (by omega), if_neg (by have := HK.out; omega), if_neg (by have := HK.out; omega), if_neg (by have := HK.out; omega)])
  have HEn := hid (entry_walk HS1.out.md hm oa HB.out.a)
  have Hm := hid hm
  by_cases hin : oa < (M.roots m).length
  rotate_left
  · as_aux_lemma =>
    rw [if_neg hin] at HEn
    have HE := hid (show mstepS G M ⟨kind, m, oa, ob, oc⟩ = ((10, 0), G, M) by rw [HX.out]; unfold mnamS; dsimp only; rw [if_pos hin])
    clear hin
    go_wp2_with fail
    refine HEn.out.mono ?_
    rintro e2 w2 ⟨rfl, rfl⟩
    clear HEn
    have HRf := hid (mrefuse_walk 10 w2)
    go_wp2_with fail
    refine HRf.out.mono ?_
    rintro e7 w7 ⟨rfl, hb7⟩
    have HSt := hid (HS1.out.below hb7)
    clear HRf hb7 HS1 
    (try clear k0 k1 k2 k3 k4)
    (try clear k1 k2 k3 k4)
    go_wp2_with (refine wpList_store_blk rfl 38 _ _ rfl (b3 + 1) rfl (rzC 10 0) rfl HSt.out.rb rfl I0.out (rz_one 10 0) ?_; intro w9 HB9 HU9)
    exact bodyPost_ret (results_blk (cs := rzC 10 0) Try.results18 rfl aggRz HB9.out) rfl (by rw [← Hres.out, HE.out]; exact HSt.out.fin HU9.out 10 0)
  rw [if_pos hin] at HEn
  obtain ⟨obj, hobj⟩ : ∃ x, (M.roots m).getD ((M.roots m).length - 1 - oa) 0 = x := ⟨_, rfl⟩
  rw [hobj] at HEn
  have Hin := hid (And.intro hin hobj)
  have Hob := hid (Hro.out m obj (by rw [← hobj]; exact getD_mem (by omega)))
  clear hin hobj
  have HPu := hid (mpush_walk HS1.out.md hm obj)
  by_cases h64 : (M.roots m).length = 64
  · as_aux_lemma =>
    have HE := hid (show mstepS G M ⟨kind, m, oa, ob, oc⟩ = ((8, 0), G, M) by rw [HX.out]; unfold mnamS; dsimp only; rw [if_neg (fun h => h Hin.out.1), Hin.out.2, if_pos HK.out]; unfold mpuS; rw [if_pos h64])
    go_wp2_with fail
    refine HEn.out.mono ?_
    rintro e2 w2 ⟨rfl, rfl⟩
    clear HEn
    go_wp2_with fail
    refine HPu.out.mono ?_
    intro e3 w3 h3
    unfold MuP at h3
    rw [if_pos h64] at h3
    obtain ⟨rfl, rfl⟩ := h3
    clear HPu h64
    have HRf := hid (mrefuse_walk 8 w3)
    go_wp2_with fail
    refine HRf.out.mono ?_
    rintro e7 w7 ⟨rfl, hb7⟩
    have HSt := hid (HS1.out.below hb7)
    clear HRf hb7 HS1 
    (try clear k0 k1 k2 k3 k4)
    (try clear k1 k2 k3 k4)
    go_wp2_with (refine wpList_store_blk rfl 38 _ _ rfl (b3 + 1) rfl (rzC 8 0) rfl HSt.out.rb rfl I0.out (rz_one 8 0) ?_; intro w9 HB9 HU9)
    exact bodyPost_ret (results_blk (cs := rzC 8 0) Try.results18 rfl aggRz HB9.out) rfl (by rw [← Hres.out, HE.out]; exact HSt.out.fin HU9.out 8 0)
  · as_aux_lemma =>
    have HE := hid (show mstepS G M ⟨kind, m, oa, ob, oc⟩ = ((0, 0), G, mpush M m obj) by rw [HX.out]; unfold mnamS; dsimp only; rw [if_neg (fun h => h Hin.out.1), Hin.out.2, if_pos HK.out]; unfold mpuS; rw [if_neg h64])
    go_wp2_with fail
    refine HEn.out.mono ?_
    rintro e2 w2 ⟨rfl, rfl⟩
    clear HEn
    go_wp2_with fail
    refine HPu.out.mono ?_
    intro e3 w3 h3
    unfold MuP at h3
    rw [if_neg h64] at h3
    obtain ⟨rfl, hr3⟩ := h3
    obtain ⟨L3, Y3, ρ3, hs3⟩ := HS1.out.mach hr3
    have HS3 := hid hs3
    clear HPu h64 hr3 hs3 HS1
    have HRf := hid (mrefuse_walk 0 w3)
    go_wp2_with fail
    refine HRf.out.mono ?_
    rintro e7 w7 ⟨rfl, hb7⟩
    have HSt := hid (HS3.out.below hb7)
    clear HRf hb7 HS3 
    (try clear k0 k1 k2 k3 k4)
    (try clear k1 k2 k3 k4)
    go_wp2_with (refine wpList_store_blk rfl 38 _ _ rfl (b3 + 1) rfl (rzC 0 0) rfl HSt.out.rb rfl I0.out (rz_one 0 0) ?_; intro w9 HB9 HU9)
    exact bodyPost_ret (results_blk (cs := rzC 0 0) Try.results18 rfl aggRz HB9.out) rfl (by rw [← Hres.out, HE.out]; exact HSt.out.fin HU9.out 0 0)
set_option maxRecDepth 1000000 in
set_option maxHeartbeats 8000000 in
theorem mstep_5 (h : MdM w ρ L Y G M) (ok : GOk G) (gb : GB G 90000000000) (kind m oa ob oc : Nat) (hob : OpB ⟨kind, m, oa, ob, oc⟩) (hk : kind = 5) (hm : m < 4) (hro : ∀ m obj, obj ∈ M.roots m → 65536 ≤ obj ∧ obj < 98304)  :
    Calls Try.prog 18 #[.pointer (some ⟨Y.mB, 0, none⟩), .agg (opC ⟨kind, m, oa, ob, oc⟩).toArray] w fun e w' => RzP w ρ L Y (mstepS G M ⟨kind, m, oa, ob, oc⟩) e w' := by
  have HK := hid hk
  clear hk
  have Hro := hid hro
  clear hro
  have HS0 := hid (SmS.start h ⟨kind, m, oa, ob, oc⟩)
  have I0 := hid info_rz
  have HOk := hid (And.intro ok gb)
  obtain ⟨b3, hb3⟩ : ∃ x, w.heap.size = x := ⟨_, rfl⟩
  have Hb3 := hid hb3
  have HB := hid hob
  rw [hb3] at HS0
  obtain ⟨res, hres⟩ : ∃ x, mstepS G M ⟨kind, m, oa, ob, oc⟩ = x := ⟨_, rfl⟩
  rw [hres]
  have Hres := hid hres
  clear h ok gb hob hres
  have e0 : (opC ⟨kind, m, oa, ob, oc⟩).toArray = #[.int .u8 (kind : Int), .int .u8 (m : Int), .int .u64 (oa : Int), .int .u64 (ob : Int), .int .u64 (oc : Int)] := rfl
  rw [e0] at HS0 ⊢
  clear e0
  go_enter Try.func18, Try.ntmps18
  go_upto_region 1 with fail
  have HS1 : Hid (SmS w ρ L Y b3 (b3 + 1) ⟨kind, m, oa, ob, oc⟩ G M L Y ρ ((w.alloc (.cells #[.int .u8 (kind : Int), .int .u8 (m : Int), .int .u64 (oa : Int), .int .u64 (ob : Int), .int .u64 (oc : Int)] 31)).alloc (.cells #[.int .u8 0, .int .u64 0, .slice none 0 0, .slice none 0 0, .slice none 0 0, .slice none 0 0, .slice none 0 0, .slice none 0 0, .slice none 0 0, .slice none 0 0] 38))) := hid HS0.out
  clear HS0
  try simp only [hb3]
  generalize (w.alloc (.cells #[.int .u8 (kind : Int), .int .u8 (m : Int), .int .u64 (oa : Int), .int .u64 (ob : Int), .int .u64 (oc : Int)] 31)).alloc (.cells #[.int .u8 0, .int .u64 0, .slice none 0 0, .slice none 0 0, .slice none 0 0, .slice none 0 0, .slice none 0 0, .slice none 0 0, .slice none 0 0, .slice none 0 0] 38) = w1 at HS1 ⊢
  clear hb3
  have k0 : w1.cell? ⟨b3, 0, none⟩ = some (.int .u8 (kind : Int)) := HS1.out.ob.cell 0
  have k1 : w1.cell? ⟨b3, 1, none⟩ = some (.int .u8 (m : Int)) := HS1.out.ob.cell 1
  have k2 : w1.cell? ⟨b3, 2, none⟩ = some (.int .u64 (oa : Int)) := HS1.out.ob.cell 2
  have k3 : w1.cell? ⟨b3, 3, none⟩ = some (.int .u64 (ob : Int)) := HS1.out.ob.cell 3
  have k4 : w1.cell? ⟨b3, 4, none⟩ = some (.int .u64 (oc : Int)) := HS1.out.ob.cell 4
  have hk := HK.out
  have hkk : ((kind : Int) == 5) = true := by simp; omega
  have d0 : ((kind : Int) == 0) = false := by simp; omega
  have d3 : ((kind : Int) == 3) = false := by simp; omega
  have d4 : ((kind : Int) == 4) = false := by simp; omega
  have d6 : ((kind : Int) == 6) = false := by simp; omega
  have d7 : ((kind : Int) == 7) = false := by simp; omega
  have d8 : ((kind : Int) == 8) = false := by simp; omega
  have d9 : ((kind : Int) == 9) = false := by simp; omega
  have g1 : decide ((kind : Int) ≥ 10) = false := decide_eq_false (by omega)
  have g2 : decide ((10 : Int) ≤ (kind : Int)) = false := decide_eq_false (by omega)
  have g3 : (kind : Int) < 10 := by omega
  have f1 : decide ((m : Int) ≥ 4) = false := decide_eq_false (by omega)
  have f2 : decide ((4 : Int) ≤ (m : Int)) = false := decide_eq_false (by omega)
  have f3 : (m : Int) < 4 := by omega
  clear hk
  have HX : Hid (mstepS G M ⟨kind, m, oa, ob, oc⟩ = mnamS G M ⟨kind, m, oa, ob, oc⟩) := hid (by unfold mstepS; dsimp only; rw [if_neg (by have := HK.out; omega), if_neg (by have := HK.out; omega), if_neg (by have := HK.out; omega), if_neg (by omega), if_neg (by have := HK.out; omega), if_neg (by have := HK.out; omega), if_neg (by have := HK.out; omega)])
  have HEn := hid (entry_walk HS1.out.md hm oa HB.out.a)
  have Hm := hid hm
  by_cases hin : oa < (M.roots m).length
  rotate_left
  · as_aux_lemma =>
    rw [if_neg hin] at HEn
    have HE := hid (show mstepS G M ⟨kind, m, oa, ob, oc⟩ = ((10, 0), G, M) by rw [HX.out]; unfold mnamS; dsimp only; rw [if_pos hin])
    clear hin
    go_wp2_with fail
    refine HEn.out.mono ?_
    rintro e2 w2 ⟨rfl, rfl⟩
    clear HEn
    have HRf := hid (mrefuse_walk 10 w2)
    go_wp2_with fail
    refine HRf.out.mono ?_
    rintro e7 w7 ⟨rfl, hb7⟩
    have HSt := hid (HS1.out.below hb7)
    clear HRf hb7 HS1 
    (try clear k0 k1 k2 k3 k4)
    (try clear k1 k2 k3 k4)
    go_wp2_with (refine wpList_store_blk rfl 38 _ _ rfl (b3 + 1) rfl (rzC 10 0) rfl HSt.out.rb rfl I0.out (rz_one 10 0) ?_; intro w9 HB9 HU9)
    exact bodyPost_ret (results_blk (cs := rzC 10 0) Try.results18 rfl aggRz HB9.out) rfl (by rw [← Hres.out, HE.out]; exact HSt.out.fin HU9.out 10 0)
  rw [if_pos hin] at HEn
  obtain ⟨obj, hobj⟩ : ∃ x, (M.roots m).getD ((M.roots m).length - 1 - oa) 0 = x := ⟨_, rfl⟩
  rw [hobj] at HEn
  have Hin := hid (And.intro hin hobj)
  have Hob := hid (Hro.out m obj (by rw [← hobj]; exact getD_mem (by omega)))
  clear hin hobj
  by_cases hb4 : 4 ≤ ob
  · as_aux_lemma =>
    have b1 : decide ((ob : Int) ≥ 4) = true := decide_eq_true (by omega)
    have b2 : decide ((4 : Int) ≤ (ob : Int)) = true := decide_eq_true (by omega)
    have b4 : (4 : Int) ≤ (ob : Int) := by omega
    have HE := hid (show mstepS G M ⟨kind, m, oa, ob, oc⟩ = ((1, 0), G, M) by rw [HX.out]; unfold mnamS; dsimp only; rw [if_neg (fun h => h Hin.out.1), Hin.out.2, if_neg (by have := HK.out; omega), if_pos HK.out, if_pos hb4])
    go_wp2_with fail
    refine HEn.out.mono ?_
    rintro e2 w2 ⟨rfl, rfl⟩
    clear HEn
    have HRf := hid (mrefuse_walk 1 w2)
    go_wp2_with fail
    refine HRf.out.mono ?_
    rintro e7 w7 ⟨rfl, hb7⟩
    have HSt := hid (HS1.out.below hb7)
    clear HRf hb7 HS1 
    (try clear k0 k1 k2 k3 k4)
    (try clear k1 k2 k3 k4)
    go_wp2_with (refine wpList_store_blk rfl 38 _ _ rfl (b3 + 1) rfl (rzC 1 0) rfl HSt.out.rb rfl I0.out (rz_one 1 0) ?_; intro w9 HB9 HU9)
    exact bodyPost_ret (results_blk (cs := rzC 1 0) Try.results18 rfl aggRz HB9.out) rfl (by rw [← Hres.out, HE.out]; exact HSt.out.fin HU9.out 1 0)
  have b1 : decide ((ob : Int) ≥ 4) = false := decide_eq_false (by omega)
  have b2 : decide ((4 : Int) ≤ (ob : Int)) = false := decide_eq_false (by omega)
  have b4 : (ob : Int) < 4 := by omega
  have HPu := hid (mpush_walk HS1.out.md (m := ob) (by omega) obj)
  by_cases h64 : (M.roots ob).length = 64
  · as_aux_lemma =>
    have HE := hid (show mstepS G M ⟨kind, m, oa, ob, oc⟩ = ((8, 0), G, M) by rw [HX.out]; unfold mnamS; dsimp only; rw [if_neg (fun h => h Hin.out.1), Hin.out.2, if_neg (by have := HK.out; omega), if_pos HK.out, if_neg hb4]; unfold mpuS; rw [if_pos h64])
    go_wp2_with fail
    refine HEn.out.mono ?_
    rintro e2 w2 ⟨rfl, rfl⟩
    clear HEn
    go_wp2_with fail
    refine HPu.out.mono ?_
    intro e3 w3 h3
    unfold MuP at h3
    rw [if_pos h64] at h3
    obtain ⟨rfl, rfl⟩ := h3
    clear HPu h64
    have HRf := hid (mrefuse_walk 8 w3)
    go_wp2_with fail
    refine HRf.out.mono ?_
    rintro e7 w7 ⟨rfl, hb7⟩
    have HSt := hid (HS1.out.below hb7)
    clear HRf hb7 HS1 
    (try clear k0 k1 k2 k3 k4)
    (try clear k1 k2 k3 k4)
    go_wp2_with (refine wpList_store_blk rfl 38 _ _ rfl (b3 + 1) rfl (rzC 8 0) rfl HSt.out.rb rfl I0.out (rz_one 8 0) ?_; intro w9 HB9 HU9)
    exact bodyPost_ret (results_blk (cs := rzC 8 0) Try.results18 rfl aggRz HB9.out) rfl (by rw [← Hres.out, HE.out]; exact HSt.out.fin HU9.out 8 0)
  · as_aux_lemma =>
    have HE := hid (show mstepS G M ⟨kind, m, oa, ob, oc⟩ = ((0, 0), G, mpush M ob obj) by rw [HX.out]; unfold mnamS; dsimp only; rw [if_neg (fun h => h Hin.out.1), Hin.out.2, if_neg (by have := HK.out; omega), if_pos HK.out, if_neg hb4]; unfold mpuS; rw [if_neg h64])
    go_wp2_with fail
    refine HEn.out.mono ?_
    rintro e2 w2 ⟨rfl, rfl⟩
    clear HEn
    go_wp2_with fail
    refine HPu.out.mono ?_
    intro e3 w3 h3
    unfold MuP at h3
    rw [if_neg h64] at h3
    obtain ⟨rfl, hr3⟩ := h3
    obtain ⟨L3, Y3, ρ3, hs3⟩ := HS1.out.mach hr3
    have HS3 := hid hs3
    clear HPu h64 hr3 hs3 HS1
    have HRf := hid (mrefuse_walk 0 w3)
    go_wp2_with fail
    refine HRf.out.mono ?_
    rintro e7 w7 ⟨rfl, hb7⟩
    have HSt := hid (HS3.out.below hb7)
    clear HRf hb7 HS3 
    (try clear k0 k1 k2 k3 k4)
    (try clear k1 k2 k3 k4)
    go_wp2_with (refine wpList_store_blk rfl 38 _ _ rfl (b3 + 1) rfl (rzC 0 0) rfl HSt.out.rb rfl I0.out (rz_one 0 0) ?_; intro w9 HB9 HU9)
    exact bodyPost_ret (results_blk (cs := rzC 0 0) Try.results18 rfl aggRz HB9.out) rfl (by rw [← Hres.out, HE.out]; exact HSt.out.fin HU9.out 0 0)
set_option maxRecDepth 1000000 in
set_option maxHeartbeats 8000000 in
theorem mstep_2 (h : MdM w ρ L Y G M) (ok : GOk G) (gb : GB G 90000000000) (kind m oa ob oc : Nat) (hob : OpB ⟨kind, m, oa, ob, oc⟩) (hk : kind = 2) (hm : m < 4) (hro : ∀ m obj, obj ∈ M.roots m → 65536 ≤ obj ∧ obj < 98304)  :
    Calls Try.prog 18 #[.pointer (some ⟨Y.mB, 0, none⟩), .agg (opC ⟨kind, m, oa, ob, oc⟩).toArray] w fun e w' => RzP w ρ L Y (mstepS G M ⟨kind, m, oa, ob, oc⟩) e w' := by
  have HK := hid hk
  clear hk
  have Hro := hid hro
  clear hro
  have HS0 := hid (SmS.start h ⟨kind, m, oa, ob, oc⟩)
  have I0 := hid info_rz
  have HOk := hid (And.intro ok gb)
  obtain ⟨b3, hb3⟩ : ∃ x, w.heap.size = x := ⟨_, rfl⟩
  have Hb3 := hid hb3
  have HB := hid hob
  rw [hb3] at HS0
  obtain ⟨res, hres⟩ : ∃ x, mstepS G M ⟨kind, m, oa, ob, oc⟩ = x := ⟨_, rfl⟩
  rw [hres]
  have Hres := hid hres
  clear h ok gb hob hres
  have e0 : (opC ⟨kind, m, oa, ob, oc⟩).toArray = #[.int .u8 (kind : Int), .int .u8 (m : Int), .int .u64 (oa : Int), .int .u64 (ob : Int), .int .u64 (oc : Int)] := rfl
  rw [e0] at HS0 ⊢
  clear e0
  go_enter Try.func18, Try.ntmps18
  go_upto_region 1 with fail
  have HS1 : Hid (SmS w ρ L Y b3 (b3 + 1) ⟨kind, m, oa, ob, oc⟩ G M L Y ρ ((w.alloc (.cells #[.int .u8 (kind : Int), .int .u8 (m : Int), .int .u64 (oa : Int), .int .u64 (ob : Int), .int .u64 (oc : Int)] 31)).alloc (.cells #[.int .u8 0, .int .u64 0, .slice none 0 0, .slice none 0 0, .slice none 0 0, .slice none 0 0, .slice none 0 0, .slice none 0 0, .slice none 0 0, .slice none 0 0] 38))) := hid HS0.out
  clear HS0
  try simp only [hb3]
  generalize (w.alloc (.cells #[.int .u8 (kind : Int), .int .u8 (m : Int), .int .u64 (oa : Int), .int .u64 (ob : Int), .int .u64 (oc : Int)] 31)).alloc (.cells #[.int .u8 0, .int .u64 0, .slice none 0 0, .slice none 0 0, .slice none 0 0, .slice none 0 0, .slice none 0 0, .slice none 0 0, .slice none 0 0, .slice none 0 0] 38) = w1 at HS1 ⊢
  clear hb3
  have k0 : w1.cell? ⟨b3, 0, none⟩ = some (.int .u8 (kind : Int)) := HS1.out.ob.cell 0
  have k1 : w1.cell? ⟨b3, 1, none⟩ = some (.int .u8 (m : Int)) := HS1.out.ob.cell 1
  have k2 : w1.cell? ⟨b3, 2, none⟩ = some (.int .u64 (oa : Int)) := HS1.out.ob.cell 2
  have k3 : w1.cell? ⟨b3, 3, none⟩ = some (.int .u64 (ob : Int)) := HS1.out.ob.cell 3
  have k4 : w1.cell? ⟨b3, 4, none⟩ = some (.int .u64 (oc : Int)) := HS1.out.ob.cell 4
  have hk := HK.out
  have hkk : ((kind : Int) == 2) = true := by simp; omega
  have d0 : ((kind : Int) == 0) = false := by simp; omega
  have d3 : ((kind : Int) == 3) = false := by simp; omega
  have d4 : ((kind : Int) == 4) = false := by simp; omega
  have d5 : ((kind : Int) == 5) = false := by simp; omega
  have d6 : ((kind : Int) == 6) = false := by simp; omega
  have d7 : ((kind : Int) == 7) = false := by simp; omega
  have d8 : ((kind : Int) == 8) = false := by simp; omega
  have d9 : ((kind : Int) == 9) = false := by simp; omega
  have g1 : decide ((kind : Int) ≥ 10) = false := decide_eq_false (by omega)
  have g2 : decide ((10 : Int) ≤ (kind : Int)) = false := decide_eq_false (by omega)
  have g3 : (kind : Int) < 10 := by omega
  have f1 : decide ((m : Int) ≥ 4) = false := decide_eq_false (by omega)
  have f2 : decide ((4 : Int) ≤ (m : Int)) = false := decide_eq_false (by omega)
  have f3 : (m : Int) < 4 := by omega
  clear hk
  have HX : Hid (mstepS G M ⟨kind, m, oa, ob, oc⟩ = mnamS G M ⟨kind, m, oa, ob, oc⟩) := hid (by unfold mstepS; dsimp only; rw [if_neg (by have := HK.out; omega), if_neg (by have := HK.out; omega), if_neg (by have := HK.out; omega), if_neg (by omega), if_neg (by have := HK.out; omega), if_neg (by have := HK.out; omega), if_neg (by have := HK.out; omega)])
  have HEn := hid (entry_walk HS1.out.md hm oa HB.out.a)
  have Hm := hid hm
  by_cases hin : oa < (M.roots m).length
  rotate_left
  · as_aux_lemma =>
    rw [if_neg hin] at HEn
    have HE := hid (show mstepS G M ⟨kind, m, oa, ob, oc⟩ = ((10, 0), G, M) by rw [HX.out]; unfold mnamS; dsimp only; rw [if_pos hin])
    clear hin
    go_wp2_with fail
    refine HEn.out.mono ?_
    rintro e2 w2 ⟨rfl, rfl⟩
    clear HEn
    have HRf := hid (mrefuse_walk 10 w2)
    go_wp2_with fail
    refine HRf.out.mono ?_
    rintro e7 w7 ⟨rfl, hb7⟩
    have HSt := hid (HS1.out.below hb7)
    clear HRf hb7 HS1 
    (try clear k0 k1 k2 k3 k4)
    (try clear k1 k2 k3 k4)
    go_wp2_with (refine wpList_store_blk rfl 38 _ _ rfl (b3 + 1) rfl (rzC 10 0) rfl HSt.out.rb rfl I0.out (rz_one 10 0) ?_; intro w9 HB9 HU9)
    exact bodyPost_ret (results_blk (cs := rzC 10 0) Try.results18 rfl aggRz HB9.out) rfl (by rw [← Hres.out, HE.out]; exact HSt.out.fin HU9.out 10 0)
  rw [if_pos hin] at HEn
  obtain ⟨obj, hobj⟩ : ∃ x, (M.roots m).getD ((M.roots m).length - 1 - oa) 0 = x := ⟨_, rfl⟩
  rw [hobj] at HEn
  have Hin := hid (And.intro hin hobj)
  have Hob := hid (Hro.out m obj (by rw [← hobj]; exact getD_mem (by omega)))
  clear hin hobj
  have HFl := hid (mfield_walk HS1.out.md HOk.out.1 obj ob HB.out.b)
  obtain ⟨fv, hfv⟩ : ∃ x, (mfieldS G obj ob).1 = x := ⟨_, rfl⟩
  obtain ⟨fc, hfc⟩ : ∃ x, (mfieldS G obj ob).2 = x := ⟨_, rfl⟩
  rw [hfv, hfc] at HFl
  have Hfc := hid (And.intro hfv hfc)
  have HFs : Hid (fc = 0 → ∃ s, 65536 + s = fv ∧ s < 32768) := hid (fun h0 => by
    rw [h0] at hfc
    unfold mfieldS at hfc hfv
    cases hh : G.head obj with
    | none => rw [hh] at hfc; cases hfc
    | some p =>
      obtain ⟨n', q'⟩ := p
      rw [hh] at hfc hfv
      dsimp only at hfc hfv
      have h1 := HOk.out.1.hd obj n' q' hh
      have h2 := offA_in h1.1
      by_cases hq : q' ≤ ob
      · rw [if_pos hq] at hfc; cases hfc
      · rw [if_neg hq] at hfv
        exact ⟨offA obj + 1 + ob, by rw [← hfv]; dsimp only; omega, by omega⟩)
  clear hfv hfc
  by_cases hfc0 : fc = 0
  rotate_left
  · as_aux_lemma =>
    have d1 : ((fc : Int) != 0) = true := by simp; omega
    have HE := hid (show mstepS G M ⟨kind, m, oa, ob, oc⟩ = ((fc, 0), G, M) by rw [HX.out]; unfold mnamS; dsimp only; rw [if_neg (fun h => h Hin.out.1), Hin.out.2, if_neg (by have := HK.out; omega), if_neg (by have := HK.out; omega), if_pos HK.out, if_pos (by rw [Hfc.out.2]; exact hfc0), Hfc.out.2])
    go_wp2_with fail
    refine HEn.out.mono ?_
    rintro e2 w2 ⟨rfl, rfl⟩
    clear HEn
    go_wp2_with fail
    refine HFl.out.mono ?_
    rintro e3 w3 ⟨rfl, hb3'⟩
    have HS3 := hid (HS1.out.below hb3')
    clear HFl hb3' HS1
    have HRf := hid (mrefuse_walk fc w3)
    go_wp2_with fail
    refine HRf.out.mono ?_
    rintro e7 w7 ⟨rfl, hb7⟩
    have HSt := hid (HS3.out.below hb7)
    clear HRf hb7 HS3 
    (try clear k0 k1 k2 k3 k4)
    (try clear k1 k2 k3 k4)
    go_wp2_with (refine wpList_store_blk rfl 38 _ _ rfl (b3 + 1) rfl (rzC fc 0) rfl HSt.out.rb rfl I0.out (rz_one fc 0) ?_; intro w9 HB9 HU9)
    exact bodyPost_ret (results_blk (cs := rzC fc 0) Try.results18 rfl aggRz HB9.out) rfl (by rw [← Hres.out, HE.out]; exact HSt.out.fin HU9.out fc 0)
  subst hfc0
  obtain ⟨s, hs1, hs2⟩ := HFs.out rfl
  have hoff : offA fv = s := by rw [← hs1]; exact offA_add s
  obtain ⟨x, hx⟩ : ∃ x, G.word s = x := ⟨_, rfl⟩
  have HRA : Hid (∀ wx, Below w1.heap.size w1 wx → Calls Try.prog 26 #[.pointer (some ⟨L.hB, 0, none⟩), .int .u64 (fv : Int)] wx fun e w' => e = .returned (.int .u64 (x : Int)) ∧ Below wx.heap.size wx w') := hid (fun wx hb => by rw [← hx]; exact refAt_walk (HS1.out.below hb).md.gm hs1 hs2)
  have HW : Hid (G.word (offA (mfieldS G obj ob).1) = x ∧ (mfieldS G obj ob).2 = 0) := hid ⟨by rw [Hfc.out.1, hoff, hx], Hfc.out.2⟩
  clear hs1 hs2 hoff hx
  by_cases hx0 : x = 0
  · as_aux_lemma =>
    subst hx0
    have HE := hid (show mstepS G M ⟨kind, m, oa, ob, oc⟩ = ((0, 0), G, M) by rw [HX.out]; unfold mnamS; dsimp only; rw [if_neg (fun h => h Hin.out.1), Hin.out.2, if_neg (by have := HK.out; omega), if_neg (by have := HK.out; omega), if_pos HK.out, if_neg (fun h => h HW.out.2), if_pos HW.out.1])
    go_wp2_with fail
    refine HEn.out.mono ?_
    rintro e2 w2 ⟨rfl, rfl⟩
    clear HEn
    go_wp2_with fail
    refine HFl.out.mono ?_
    rintro e3 w3 ⟨rfl, hb3'⟩
    have HS3 := hid (HS1.out.below hb3')
    have HRA2 := hid (HRA.out _ hb3')
    have c0 := HS3.out.md.cells.1
    clear HFl hb3' HS1 HRA
    go_wp2_with fail
    refine HRA2.out.mono ?_
    rintro e4 w4 ⟨rfl, hb4⟩
    have HS4 := hid (HS3.out.below hb4)
    clear HRA2 hb4 HS3 c0
    have HVl := hid (mvalue_walk 0 w4)
    go_wp2_with fail
    refine HVl.out.mono ?_
    rintro e7 w7 ⟨rfl, hb7⟩
    have HS7 := hid (HS4.out.below hb7)
    clear HVl hb7 HS4
    have HSt := hid HS7.out
    clear HS7 
    (try clear k0 k1 k2 k3 k4)
    (try clear k1 k2 k3 k4)
    go_wp2_with (refine wpList_store_blk rfl 38 _ _ rfl (b3 + 1) rfl (rzC 0 0) rfl HSt.out.rb rfl I0.out (rz_one 0 0) ?_; intro w9 HB9 HU9)
    exact bodyPost_ret (results_blk (cs := rzC 0 0) Try.results18 rfl aggRz HB9.out) rfl (by rw [← Hres.out, HE.out]; exact HSt.out.fin HU9.out 0 0)
  have dx : ((x : Int) != 0) = true := by simp; omega
  have dx2 : ((x : Int) == 0) = false := by simp; omega
  have HPu : Hid (∀ wx, Below w1.heap.size w1 wx → Calls Try.prog 64 #[.pointer (some ⟨Y.mB, 0, none⟩), .int .i64 (m : Int), .int .u64 (x : Int)] wx fun e w' => MuP wx ρ L Y G M m x e w') := hid (fun wx hb => mpush_walk (HS1.out.below hb).md hm x)
  by_cases h64 : (M.roots m).length = 64
  · as_aux_lemma =>
    have HE := hid (show mstepS G M ⟨kind, m, oa, ob, oc⟩ = ((8, 0), G, M) by rw [HX.out]; unfold mnamS; dsimp only; rw [if_neg (fun h => h Hin.out.1), Hin.out.2, if_neg (by have := HK.out; omega), if_neg (by have := HK.out; omega), if_pos HK.out, if_neg (fun h => h HW.out.2), if_neg (by rw [HW.out.1]; exact hx0), if_pos h64])
    go_wp2_with fail
    refine HEn.out.mono ?_
    rintro e2 w2 ⟨rfl, rfl⟩
    clear HEn
    go_wp2_with fail
    refine HFl.out.mono ?_
    rintro e3 w3 ⟨rfl, hb3'⟩
    have HS3 := hid (HS1.out.below hb3')
    have HRA2 := hid (HRA.out _ hb3')
    have c0 := HS3.out.md.cells.1
    have Hb3' := hid hb3'
    clear HFl hb3' HRA
    go_wp2_with fail
    refine HRA2.out.mono ?_
    rintro e4 w4 ⟨rfl, hb4⟩
    have HS4 := hid (HS3.out.below hb4)
    have HPu2 := hid (HPu.out _ (Hb3'.out.trans (hb4.mono Hb3'.out.size)))
    clear HRA2 hb4 HS3 c0 HPu HS1
    go_wp2_with fail
    refine HPu2.out.mono ?_
    intro e5 w5 h5
    unfold MuP at h5
    rw [if_pos h64] at h5
    obtain ⟨rfl, rfl⟩ := h5
    clear HPu2 h64
    have HRf := hid (mrefuse_walk 8 w5)
    go_wp2_with fail
    refine HRf.out.mono ?_
    rintro e7 w7 ⟨rfl, hb7⟩
    have HSt := hid (HS4.out.below hb7)
    clear HRf hb7 HS4 
    (try clear k0 k1 k2 k3 k4)
    (try clear k1 k2 k3 k4)
    go_wp2_with (refine wpList_store_blk rfl 38 _ _ rfl (b3 + 1) rfl (rzC 8 0) rfl HSt.out.rb rfl I0.out (rz_one 8 0) ?_; intro w9 HB9 HU9)
    exact bodyPost_ret (results_blk (cs := rzC 8 0) Try.results18 rfl aggRz HB9.out) rfl (by rw [← Hres.out, HE.out]; exact HSt.out.fin HU9.out 8 0)
  · as_aux_lemma =>
    have HE := hid (show mstepS G M ⟨kind, m, oa, ob, oc⟩ = ((0, x), G, mpush M m x) by rw [HX.out]; unfold mnamS; dsimp only; rw [if_neg (fun h => h Hin.out.1), Hin.out.2, if_neg (by have := HK.out; omega), if_neg (by have := HK.out; omega), if_pos HK.out, if_neg (fun h => h HW.out.2), if_neg (by rw [HW.out.1]; exact hx0), if_neg h64, HW.out.1])
    go_wp2_with fail
    refine HEn.out.mono ?_
    rintro e2 w2 ⟨rfl, rfl⟩
    clear HEn
    go_wp2_with fail
    refine HFl.out.mono ?_
    rintro e3 w3 ⟨rfl, hb3'⟩
    have HS3 := hid (HS1.out.below hb3')
    have HRA2 := hid (HRA.out _ hb3')
    have c0 := HS3.out.md.cells.1
    have Hb3' := hid hb3'
    clear HFl hb3' HRA
    go_wp2_with fail
    refine HRA2.out.mono ?_
    rintro e4 w4 ⟨rfl, hb4⟩
    have HS4 := hid (HS3.out.below hb4)
    have HPu2 := hid (HPu.out _ (Hb3'.out.trans (hb4.mono Hb3'.out.size)))
    clear HRA2 hb4 HS3 c0 HPu HS1
    go_wp2_with fail
    refine HPu2.out.mono ?_
    intro e5 w5 h5
    unfold MuP at h5
    rw [if_neg h64] at h5
    obtain ⟨rfl, hr5⟩ := h5
    obtain ⟨L5, Y5, ρ5, hs5⟩ := HS4.out.mach hr5
    have HS5 := hid hs5
    clear HPu2 h64 hr5 hs5 HS4
    have HVl := hid (mvalue_walk x w5)
    go_wp2_with fail
    refine HVl.out.mono ?_
    rintro e7 w7 ⟨rfl, hb7⟩
    have HS7 := hid (HS5.out.below hb7)
    clear HVl hb7 HS5
    have HSt := hid HS7.out
    clear HS7 
    (try clear k0 k1 k2 k3 k4)
    (try clear k1 k2 k3 k4)
    go_wp2_with (refine wpList_store_blk rfl 38 _ _ rfl (b3 + 1) rfl (rzC 0 x) rfl HSt.out.rb rfl I0.out (rz_one 0 x) ?_; intro w9 HB9 HU9)
    exact bodyPost_ret (results_blk (cs := rzC 0 x) Try.results18 rfl aggRz HB9.out) rfl (by rw [← Hres.out, HE.out]; exact HSt.out.fin HU9.out 0 x)
end
end Go.Proofs.Qxb6500888a
