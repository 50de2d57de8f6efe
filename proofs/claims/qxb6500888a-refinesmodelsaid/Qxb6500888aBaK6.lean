/- The abstract model: Step: pop, decrement (written by tools/mk_k6.py). -/
import Derived.Test.Qxb6500888aBaK5
namespace Go.Proofs.Qxb6500888a
open Go.RowKit
set_option linter.unusedSimpArgs false
set_option linter.unusedVariables false
attribute [local irreducible] wdC
section
variable {w w' : World} {ρ ρ' : Rl} {L L' : GL} {Y Y' : ML} {G G' : GS} {M M' : MS}
set_option maxRecDepth 1000000 in
set_option maxHeartbeats 8000000 in
theorem mstep_4 (h : MdM w ρ L Y G M) (ok : GOk G) (gb : GB G 90000000000) (kind m oa ob oc : Nat) (hob : OpB ⟨kind, m, oa, ob, oc⟩) (hk : kind = 4) (hm : m < 4) :
    Calls Try.prog 18 #[.pointer (some ⟨Y.mB, 0, none⟩), .agg (opC ⟨kind, m, oa, ob, oc⟩).toArray] w fun e w' => RzP w ρ L Y (mstepS G M ⟨kind, m, oa, ob, oc⟩) e w' := by
  have HK := hid hk
  clear hk
  have HS0 := hid (SmS.start h ⟨kind, m, oa, ob, oc⟩)
  have I0 := hid info_rz
  have HOk := hid (And.intro ok gb)
  obtain ⟨b3, hb3⟩ : ∃ x, w.heap.size = x := ⟨_, rfl⟩
  have Hb3 := hid hb3
  have HB := hid hob
  rw [hb3] at HS0
  obtain ⟨res, hres⟩ : ∃ x, mstepS G M ⟨kind, m, oa, ob, oc⟩ = x := ⟨_, rfl⟩
  rw [hres]
  have Hres := hid hres
  clear h ok gb hob hres
  have e0 : (opC ⟨kind, m, oa, ob, oc⟩).toArray = #[.int .u8 (kind : Int), .int .u8 (m : Int), .int .u64 (oa : Int), .int .u64 (ob : Int), .int .u64 (oc : Int)] := rfl
  rw [e0] at HS0 ⊢
  clear e0
  go_enter Try.func18, Try.ntmps18
  go_upto_region 1 with fail
  have HS1 : Hid (SmS w ρ L Y b3 (b3 + 1) ⟨kind, m, oa, ob, oc⟩ G M L Y ρ ((w.alloc (.cells #[.int .u8 (kind : Int), .int .u8 (m : Int), .int .u64 (oa : Int), .int .u64 (ob : Int), .int .u64 (oc : Int)] 31)).alloc (.cells #[.int .u8 0, .int .u64 0, .slice none 0 0, .slice none 0 0, .slice none 0 0, .slice none 0 0, .slice none 0 0, .slice none 0 0, .slice none 0 0, .slice none 0 0] 38))) := hid HS0.out
  clear HS0
  try simp only [hb3]
  generalize (w.alloc (.cells #[.int .u8 (kind : Int), .int .u8 (m : Int), .int .u64 (oa : Int), .int .u64 (ob : Int), .int .u64 (oc : Int)] 31)).alloc (.cells #[.int .u8 0, .int .u64 0, .slice none 0 0, .slice none 0 0, .slice none 0 0, .slice none 0 0, .slice none 0 0, .slice none 0 0, .slice none 0 0, .slice none 0 0] 38) = w1 at HS1 ⊢
  clear hb3
  have k0 : w1.cell? ⟨b3, 0, none⟩ = some (.int .u8 (kind : Int)) := HS1.out.ob.cell 0
  have k1 : w1.cell? ⟨b3, 1, none⟩ = some (.int .u8 (m : Int)) := HS1.out.ob.cell 1
  have k2 : w1.cell? ⟨b3, 2, none⟩ = some (.int .u64 (oa : Int)) := HS1.out.ob.cell 2
  have k3 : w1.cell? ⟨b3, 3, none⟩ = some (.int .u64 (ob : Int)) := HS1.out.ob.cell 3
  have k4 : w1.cell? ⟨b3, 4, none⟩ = some (.int .u64 (oc : Int)) := HS1.out.ob.cell 4
  have hk := HK.out
  have hkk : ((kind : Int) == 4) = true := by simp; omega
  have d0 : ((kind : Int) == 0) = false := by simp; omega
  have d7 : ((kind : Int) == 7) = false := by simp; omega
  have d8 : ((kind : Int) == 8) = false := by simp; omega
  have d9 : ((kind : Int) == 9) = false := by simp; omega
  have g1 : decide ((kind : Int) ≥ 10) = false := decide_eq_false (by omega)
  have g2 : decide ((10 : Int) ≤ (kind : Int)) = false := decide_eq_false (by omega)
  have g3 : (kind : Int) < 10 := by omega
  have f1 : decide ((m : Int) ≥ 4) = false := decide_eq_false (by omega)
  have f2 : decide ((4 : Int) ≤ (m : Int)) = false := decide_eq_false (by omega)
  have f3 : (m : Int) < 4 := by omega
  clear hk
  have HX : Hid (mstepS G M ⟨kind, m, oa, ob, oc⟩ = ((mpopS M m).1, G, (mpopS M m).2)) := hid (by unfold mstepS; dsimp only; rw [if_neg (by have := HK.out; omega), if_neg (by have := HK.out; omega), if_neg (by have := HK.out; omega), if_neg (by have := HK.out; omega), if_neg (by have := HK.out; omega), if_pos HK.out])
  have HEn := hid (entry_walk HS1.out.md hm 0 (by decide))
  obtain ⟨n, hn⟩ : ∃ n, (M.roots m).length = n := ⟨_, rfl⟩
  have hl := HS1.out.md.rl m
  rw [hn] at HEn hl
  have Hn := hid hn
  have Hm := hid hm
  have il : (n : Int) ≤ 64 := by omega
  clear hn
  by_cases hn0 : n = 0
  · as_aux_lemma =>
    subst hn0
    rw [if_neg (by decide)] at HEn
    have HE := hid (show mstepS G M ⟨kind, m, oa, ob, oc⟩ = ((9, 0), G, M) by rw [HX.out]; unfold mpopS; rw [if_pos Hn.out])
    go_wp2_with fail
    refine HEn.out.mono ?_
    rintro e2 w2 ⟨rfl, rfl⟩
    clear HEn
    have HRf := hid (mrefuse_walk 9 w2)
    go_wp2_with fail
    refine HRf.out.mono ?_
    rintro e7 w7 ⟨rfl, hb7⟩
    have HSt := hid (HS1.out.below hb7)
    clear HRf hb7 HS1 
    (try clear k0 k1 k2 k3 k4)
    (try clear k1 k2 k3 k4)
    go_wp2_with (refine wpList_store_blk rfl 38 _ _ rfl (b3 + 1) rfl (rzC 9 0) rfl HSt.out.rb rfl I0.out (rz_one 9 0) ?_; intro w9 HB9 HU9)
    exact bodyPost_ret (results_blk (cs := rzC 9 0) Try.results18 rfl aggRz HB9.out) rfl (by rw [← Hres.out, HE.out]; exact HSt.out.fin HU9.out 9 0)
  rw [if_pos (by omega)] at HEn
  obtain ⟨top, htop⟩ : ∃ x, (M.roots m).getD (n - 1 - 0) 0 = x := ⟨_, rfl⟩
  rw [htop] at HEn
  have HE := hid (show mstepS G M ⟨kind, m, oa, ob, oc⟩ = ((0, top), G, { M with roots := fup M.roots m (M.roots m).dropLast }) by rw [HX.out]; unfold mpopS; rw [if_neg (by rw [Hn.out]; exact hn0), Hn.out, ← htop]; rfl)
  clear htop HX
  as_aux_lemma =>
  go_wp2_with fail
  refine HEn.out.mono ?_
  rintro e2 w2 ⟨rfl, rfl⟩
  clear HEn
  obtain ⟨ax, k, hv⟩ := (HS1.out.md.rt m Hm.out).shape
  rw [Hn.out] at hv
  have HV := hid hv
  have hcap : k ≤ maxLen ∧ n ≤ k := by
    have := HS1.out.md.rt m Hm.out
    rw [hv] at this
    exact this.cap
  have iq1 : (n : Int) ≤ (k : Int) := by have := hcap.2; omega
  have iq2 : (k : Int) ≤ 9223372036854775807 := by have := hcap.1; unfold maxLen at this; omega
  obtain ⟨p, hp⟩ : ∃ p, n - 1 = p := ⟨_, rfl⟩
  have ip : (n : Int) - 1 = (p : Int) := by omega
  have ip2 : (p : Int) < (n : Int) := by omega
  have Hp := hid hp
  have HSx : Hid (∀ wx : World, Below w2.heap.size w2 wx → wx.cell? ⟨Y.mB, 3 + m, none⟩ = some (.slice ax n k)) := hid (fun wx hx => by rw [← HV.out]; exact (HS1.out.md.below hx).rcell Hm.out)
  clear hv hcap hp
  go_upto_region 27 with fail
  refine wp_region_heavy (fun wx => wx.cell? ⟨Y.mB, 3 + m, none⟩ = some (.slice ax n k)) 19 [0, 1, 2, 3, 4, 5, 6, 7, 8, 9, 10, 11, 12, 13, 14, 15, 16, 17, 18] [] rfl (by kernel_rfl) (by kernel_rfl) (fun d _ _ _ _ h => by cases d <;> exact h) (HSx.out _ (Drew.below ⟨1, rfl⟩ _)) ?_
  apply Exists.intro
  refine ⟨?_, ?_⟩
  · intro W hW
    simp only [List.take, opsAt, List.drop, List.cons_append, List.nil_append]
    repeat (go_big_quiet_step (fail))
    exact rfl
  simp only [List.take, List.drop, opsAt, List.cons_append, List.nil_append, wpHv]
  have HBd : Hid (Below w2.heap.size w2 w2.drew) := hid (Drew.below ⟨1, rfl⟩ _)
  generalize w2.drew = wd at HBd ⊢
  have HSd := hid (HS1.out.below HBd.out)
  have s1 := HSx.out _ HBd.out
  have f1' : wd.frozen? ⟨Y.mB, 3 + m, none⟩ = false := HSd.out.md.mb.frozen _
  have hcut : RowX rtA wd ρ (16 + m) (.slice ax p k) (M.roots m).dropLast := by
    have h1 := HSd.out.md.rt m Hm.out
    rw [HV.out] at h1
    have h2 := h1.cut (fun _ => rfl) (j := p) (by rw [Hn.out]; have := Hp.out; omega)
    rw [List.dropLast_eq_take, Hn.out, Hp.out]
    exact h2
  have hset := HSd.out.md.setR Hm.out (v := .slice ax p k) (xs := (M.roots m).dropLast) (by rw [List.length_dropLast]; have := Hn.out; omega) (Fr.refl _ _ _) hcut
  obtain ⟨L2, Y2, ρ2, hs2⟩ := HSd.out.mach (G' := G) (M' := { M with roots := fup M.roots m (M.roots m).dropLast }) ⟨L, _, ρ, hset.1, rfl, GL.Same.refl _, hset.2⟩
  have HS2 := hid hs2
  clear hcut hset hs2 HSx
  simp only [QN]
  go_upto_region 28 with fail
  generalize wd.setCell ⟨Y.mB, 3 + m, none⟩ (.slice ax p k) = we at HS2 ⊢
  clear s1 f1' HBd HSd HS1
  have HVl := hid (mvalue_walk top we)
  go_wp2_with fail
  refine HVl.out.mono ?_
  rintro e7 w7 ⟨rfl, hb7⟩
  have HS7 := hid (HS2.out.below hb7)
  clear HVl hb7 HS2
  have HSt := hid HS7.out
  clear HS7 
  (try clear k0 k1 k2 k3 k4)
  (try clear k1 k2 k3 k4)
  go_wp2_with (refine wpList_store_blk rfl 38 _ _ rfl (b3 + 1) rfl (rzC 0 top) rfl HSt.out.rb rfl I0.out (rz_one 0 top) ?_; intro w9 HB9 HU9)
  exact bodyPost_ret (results_blk (cs := rzC 0 top) Try.results18 rfl aggRz HB9.out) rfl (by rw [← Hres.out, HE.out]; exact HSt.out.fin HU9.out 0 top)
set_option maxRecDepth 1000000 in
set_option maxHeartbeats 8000000 in
theorem mstep_8 (h : MdM w ρ L Y G M) (ok : GOk G) (gb : GB G 90000000000) (kind m oa ob oc : Nat) (hob : OpB ⟨kind, m, oa, ob, oc⟩) (hk : kind = 8) :
    Calls Try.prog 18 #[.pointer (some ⟨Y.mB, 0, none⟩), .agg (opC ⟨kind, m, oa, ob, oc⟩).toArray] w fun e w' => RzP w ρ L Y (mstepS G M ⟨kind, m, oa, ob, oc⟩) e w' := by
  have HK := hid hk
  clear hk
  have HS0 := hid (SmS.start h ⟨kind, m, oa, ob, oc⟩)
  have I0 := hid info_rz
  have HOk := hid (And.intro ok gb)
  obtain ⟨b3, hb3⟩ : ∃ x, w.heap.size = x := ⟨_, rfl⟩
  have Hb3 := hid hb3
  have HB := hid hob
  rw [hb3] at HS0
  obtain ⟨res, hres⟩ : ∃ x, mstepS G M ⟨kind, m, oa, ob, oc⟩ = x := ⟨_, rfl⟩
  rw [hres]
  have Hres := hid hres
  clear h ok gb hob hres
  have e0 : (opC ⟨kind, m, oa, ob, oc⟩).toArray = #[.int .u8 (kind : Int), .int .u8 (m : Int), .int .u64 (oa : Int), .int .u64 (ob : Int), .int .u64 (oc : Int)] := rfl
  rw [e0] at HS0 ⊢
  clear e0
  go_enter Try.func18, Try.ntmps18
  go_upto_region 1 with fail
  have HS1 : Hid (SmS w ρ L Y b3 (b3 + 1) ⟨kind, m, oa, ob, oc⟩ G M L Y ρ ((w.alloc (.cells #[.int .u8 (kind : Int), .int .u8 (m : Int), .int .u64 (oa : Int), .int .u64 (ob : Int), .int .u64 (oc : Int)] 31)).alloc (.cells #[.int .u8 0, .int .u64 0, .slice none 0 0, .slice none 0 0, .slice none 0 0, .slice none 0 0, .slice none 0 0, .slice none 0 0, .slice none 0 0, .slice none 0 0] 38))) := hid HS0.out
  clear HS0
  try simp only [hb3]
  generalize (w.alloc (.cells #[.int .u8 (kind : Int), .int .u8 (m : Int), .int .u64 (oa : Int), .int .u64 (ob : Int), .int .u64 (oc : Int)] 31)).alloc (.cells #[.int .u8 0, .int .u64 0, .slice none 0 0, .slice none 0 0, .slice none 0 0, .slice none 0 0, .slice none 0 0, .slice none 0 0, .slice none 0 0, .slice none 0 0] 38) = w1 at HS1 ⊢
  clear hb3
  have k0 : w1.cell? ⟨b3, 0, none⟩ = some (.int .u8 (kind : Int)) := HS1.out.ob.cell 0
  have k1 : w1.cell? ⟨b3, 1, none⟩ = some (.int .u8 (m : Int)) := HS1.out.ob.cell 1
  have k2 : w1.cell? ⟨b3, 2, none⟩ = some (.int .u64 (oa : Int)) := HS1.out.ob.cell 2
  have k3 : w1.cell? ⟨b3, 3, none⟩ = some (.int .u64 (ob : Int)) := HS1.out.ob.cell 3
  have k4 : w1.cell? ⟨b3, 4, none⟩ = some (.int .u64 (oc : Int)) := HS1.out.ob.cell 4
  have hk := HK.out
  have hkk : ((kind : Int) == 8) = true := by simp; omega
  have d7 : ((kind : Int) == 7) = false := by simp; omega
  clear hk
  obtain ⟨n, hn⟩ : ∃ n, 1 + oa % 8 = n := ⟨_, rfl⟩
  have HX : Hid (mstepS G M ⟨kind, m, oa, ob, oc⟩ = ((0, (decN n G).1), (decN n G).2, M)) := hid (by unfold mstepS; dsimp only; rw [if_pos HK.out, hn])
  obtain ⟨r8, hr8⟩ : ∃ r, oa % 8 = r := ⟨_, rfl⟩
  have hr8' : (oa : Int).tmod 8 = (r8 : Int) := by rw [Int.tmod_eq_emod_of_nonneg (by omega)]; omega
  have hr8'' : (oa : Int) % 8 = (r8 : Int) := by omega
  have hrn : 1 + (r8 : Int) = (n : Int) := by omega
  have hn8 : n ≤ 8 := by omega
  have HL0 : Hid (∃ L2 Y2 ρ2 G2, SmS w ρ L Y b3 (b3 + 1) ⟨kind, m, oa, ob, oc⟩ G2 M L2 Y2 ρ2 w1 ∧ GOk G2 ∧ GB G2 (90000000000 + 0 * 8192) ∧ decN n G = (0 + (decN (n - 0) G2).1, (decN (n - 0) G2).2)) := hid ⟨L, Y, ρ, G, HS1.out, HOk.out.1, HOk.out.2, by simp⟩
  clear hn hr8 HS1
  go_wp2_with fail
  clear k0 k1 k2 k3 k4
  go_loopw [5] (fun v wr => ∃ j : Nat, j ≤ n ∧ v = .int .u64 (j : Int) ∧ Hid (∃ L2 Y2 ρ2 G2, SmS w ρ L Y b3 (b3 + 1) ⟨kind, m, oa, ob, oc⟩ G2 M L2 Y2 ρ2 wr ∧ GOk G2 ∧ GB G2 (90000000000 + j * 8192) ∧ decN n G = (j + (decN (n - j) G2).1, (decN (n - j) G2).2))) (fun v _ => n - (intOf v).toNat)
  case atStart => exact ⟨0, by omega, rfl, HL0⟩
  case round =>
    obtain ⟨j, hj, rfl, HXl⟩ := hrel
    obtain ⟨L2, Y2, ρ2, G2, hs2, hok2, hgb2, hde2⟩ := HXl.out
    have HS2 := hid hs2
    have HG2 := hid (And.intro hok2 (And.intro hgb2 hde2))
    clear HXl hs2 hok2 hgb2 hde2 HL0
    have k2 : wr.cell? ⟨b3, 2, none⟩ = some (.int .u64 (oa : Int)) := HS2.out.ob.cell 2
    by_cases hlt : j < n
    · have dj : decide ((j : Int) < (n : Int)) = true := decide_eq_true (by omega)
      have dj2 : decide (j < n) = true := decide_eq_true hlt
      have cw : wr.cell? ⟨Y.mB, 2, none⟩ = some (.pointer (some ⟨L2.cB, 0, none⟩)) := by rw [← HS2.out.yb]; exact HS2.out.md.cells.2.2.1
      have HStp := hid (step_walk HS2.out.md.gm HG2.out.1 (HG2.out.2.1.mono (by omega)))
      go_wp2_with fail
      refine HStp.out.mono ?_
      intro e3 w3 h3
      rcases h3.fn with ⟨hsf, rfl, hgp⟩ | ⟨G3, hsf, rfl, hgp⟩
      · as_aux_lemma =>
        obtain ⟨L3, ρ3, hbm, hl3, hf3⟩ := HS2.out.md.gp hgp
        obtain ⟨L4, Y4, ρ4, hs4⟩ := HS2.out.mach (G' := G2) (M' := M) ⟨L3, _, ρ3, hbm, rfl, hl3, hf3.mono (fun c => bX_g)⟩
        have HS4 := hid hs4
        have HE : Hid (mstepS G M ⟨kind, m, oa, ob, oc⟩ = ((0, j), G2, M)) := hid (by
          have e : decN (n - j) G2 = (0, G2) := by
            obtain ⟨k, hk⟩ : ∃ k, n - j = k + 1 := ⟨n - j - 1, by omega⟩
            rw [hk]
            show (match stepF G2 with | none => (0, G2) | some G' => _) = _
            rw [hsf]
          rw [HX.out, HG2.out.2.2, e]
          rfl)
        clear HStp hgp h3 hbm hl3 hf3 HS2 HG2 k2 cw hsf hs4
        have HSt := hid HS4.out
        clear HS4
        go_wp2_with (refine wpList_store_blk rfl 38 _ _ rfl (b3 + 1) rfl (rzC 0 j) rfl HSt.out.rb rfl I0.out (rz_one 0 j) ?_; intro w9 HB9 HU9)
        exact bodyPost_ret (results_blk (cs := rzC 0 j) Try.results18 rfl aggRz HB9.out) rfl (by rw [← Hres.out, HE.out]; exact HSt.out.fin HU9.out 0 j)
      · as_aux_lemma =>
        obtain ⟨L3, ρ3, hbm, hl3, hf3⟩ := HS2.out.md.gp hgp
        obtain ⟨o3, ho3, rfl⟩ := stepF_inv hsf
        obtain ⟨L4, Y4, ρ4, hs4⟩ := HS2.out.mach (G' := dropG G2 o3) (M' := M) ⟨L3, _, ρ3, hbm, rfl, hl3, hf3.mono (fun c => bX_g)⟩
        have HE : Hid (∃ L2 Y2 ρ2 G2, SmS w ρ L Y b3 (b3 + 1) ⟨kind, m, oa, ob, oc⟩ G2 M L2 Y2 ρ2 w3 ∧ GOk G2 ∧ GB G2 (90000000000 + (j + 1) * 8192) ∧ decN n G = (j + 1 + (decN (n - (j + 1)) G2).1, (decN (n - (j + 1)) G2).2)) := hid ⟨L4, Y4, ρ4, dropG G2 o3, hs4, HG2.out.1.drop ho3.at_, (HG2.out.2.1.drop HG2.out.1 ho3.at_).mono (by omega), by
          obtain ⟨k, hk⟩ : ∃ k, n - j = k + 1 := ⟨n - j - 1, by omega⟩
          have e : decN (n - j) G2 = ((decN k (dropG G2 o3)).1 + 1, (decN k (dropG G2 o3)).2) := by
            rw [hk]
            show (match stepF G2 with | none => (0, G2) | some G' => _) = _
            rw [hsf]
          rw [HG2.out.2.2, e, show n - (j + 1) = k by omega]
          congr 1
          omega⟩
        clear HStp hgp h3 hbm hl3 hf3 HS2 HG2 k2 cw hsf ho3 hs4
        go_wp2
        exact ⟨⟨j + 1, by omega, by go_num, HE⟩, by simp [intOf]; omega⟩
    · as_aux_lemma =>
      have dj : decide ((j : Int) < (n : Int)) = false := decide_eq_false (by omega)
      have dj2 : decide (j < n) = false := decide_eq_false hlt
      have HE : Hid (mstepS G M ⟨kind, m, oa, ob, oc⟩ = ((0, j), G2, M)) := hid (by
        rw [HX.out, HG2.out.2.2, show n - j = 0 by omega]
        rfl)
      have HSt := hid HS2.out
      clear HS2 HG2
      go_wp2_with (refine wpList_store_blk rfl 38 _ _ rfl (b3 + 1) rfl (rzC 0 j) rfl HSt.out.rb rfl I0.out (rz_one 0 j) ?_; intro w9 HB9 HU9)
      exact bodyPost_ret (results_blk (cs := rzC 0 j) Try.results18 rfl aggRz HB9.out) rfl (by rw [← Hres.out, HE.out]; exact HSt.out.fin HU9.out 0 j)
end
end Go.Proofs.Qxb6500888a
