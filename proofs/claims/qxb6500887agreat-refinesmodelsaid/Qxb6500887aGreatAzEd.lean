/- judgedRightly; clones and copies inside a law. -/
import Derived.Test.Qxb6500887aGreatAzEa
import Derived.Test.Qxb6500887aGreatAzEc
import Derived.Test.Qxb6500887aGreatAzRa
import Derived.Deep.DeepCutAuto
namespace Go.Proofs.Qxb6500887aGreat
open Go.RowKit
set_option linter.unusedSimpArgs false
set_option linter.unusedVariables false
section
variable {w0 w w' : World} {L l l' r : AL} {S S' S'' : AS} {zs xs ys : List (AL × AS)} {bl : List (Nat × TypeId × List Value)}
theorem LN.add (h : LN w0 zs bl w) (hb : Below w.heap.size w w') (hm : AM r S w') (ha : r.above w.heap.size) : LN w0 (zs ++ [(r, S)]) bl w' := by
  have hn := h.below hb
  refine ⟨fun x hx => ?_, ?_, hn.bk, hn.ty, hn.bel⟩
  · rcases List.mem_append.1 hx with c | c
    · exact hn.ls x c
    · rw [List.mem_singleton.1 c]
      exact ⟨hm, hn.bel, fun g hg => Nat.le_trans h.bel.size (ha.all g hg)⟩
  · refine List.pairwise_append.2 ⟨h.dj, by simp, fun x hx y hy g hg hgl => ?_⟩
    rw [List.mem_singleton.1 hy] at hgl
    have h1 := (h.ls x hx).am.lts g hg
    have h2 := ha.all g hgl
    omega
theorem LN.clone (h : LN w0 zs bl w) (hm : (l, S) ∈ zs) : Calls Tryz.prog 33 #[.pointer (some ⟨l.a, 0, none⟩)] w fun e w' => ∃ r : AL, e = .returned (.pointer (some ⟨r.a, 0, none⟩)) ∧ Hid (LN w0 (zs ++ [(r, S)]) bl w') := (arCloneZ (h.ls (l, S) hm).am).mono (by
  rintro e w1 ⟨r, rfl, H⟩
  exact ⟨r, rfl, hid (h.add H.out.2.1 H.out.1 H.out.2.2)⟩)
theorem Sm.of (hW : S.W = S'.W) (hC : S.C = S'.C) (hM : S.M = S'.M) (hL : S.L = S'.L) (hT : S.T = S'.T) : Sm S S' := by
  refine ⟨by rw [hW]; exact eqT.refl _ _, fun j hj => ?_⟩
  have : S.tX j = S'.tX j := by
    match j, hj with
    | 0, _ => exact hC
    | 1, _ => exact hM
    | 2, _ => exact hL
    | 3, _ => exact hT
  unfold AS.te
  rw [this]
  exact eqT.refl _ _
theorem Sm.cp (S S' : AS) : Sm (cpS S S') S' := Sm.of rfl rfl rfl rfl rfl
theorem eN_clr {wd per len i : Nat} {X : Nat → Nat} (h : i / per < len) : eN wd per (clrX X len) i = eN wd per z0 i := by
  unfold eN clrX
  rw [if_pos h]
  rfl
theorem Sm.reset (S : AS) : Sm (resetA S) S0 := by
  refine ⟨fun i hi => ?_, fun j hj => ?_⟩
  · show zrW S.W 0 32768 i = 0
    unfold zrW
    rw [if_pos ⟨by omega, hi⟩]
  · match j, hj with
    | 0, _ => exact fun i hi => eN_clr (wd := 2) (per := 32) (len := 512) (by have : i < 16384 := hi; omega)
    | 1, _ => exact fun i hi => eN_clr (wd := 1) (per := 64) (len := 256) (by have : i < 16384 := hi; omega)
    | 2, _ => exact fun i hi => eN_clr (wd := 1) (per := 64) (len := 512) (by have : i < 32768 := hi; omega)
    | 3, _ => exact fun i hi => eN_clr (wd := 4) (per := 16) (len := 128) (by have : i < 2048 := hi; omega)
set_option maxRecDepth 100000 in
set_option maxHeartbeats 1000000 in
theorem judgedZ (h : AM l S w) (h' : AM l' S' w) : Calls Tryz.prog 31 #[.pointer (some ⟨l.a, 0, none⟩), .pointer (some ⟨l'.a, 0, none⟩)] w fun e w' => e = .returned (.bool true) ∧ Below w.heap.size w w' := by
  have H0 : Hid (DX w l l' S S' w) := hid ⟨h, h', Below.refl _ _⟩
  clear h h'
  have HC := hid (firstDifferenceZ H0.out.a H0.out.b)
  go_enter Tryz.func31, Tryz.ntmps31
  go_wp2_with fail
  refine HC.out.mono ?_
  rintro e w1 ⟨p, i, rfl, HF⟩
  have H1 := hid (H0.out.below HF.out.2)
  have HFd := hid HF.out.1
  clear HC HF H0
  have HC := hid (fdZ H1.out.a H1.out.b)
  go_wp2_with fail
  refine HC.out.mono ?_
  rintro e w2 ⟨p', i', rfl, HF⟩
  have H2 := hid (H1.out.below HF.out.2)
  obtain ⟨hp, hi⟩ := HFd.out.uniq HF.out.1
  subst hp hi
  clear HC HF H1
  obtain ⟨bp, hbp⟩ : ∃ b, ((p : Int) == 0) = b := ⟨_, rfl⟩
  have Hbp : Hid (bp = true ↔ Sm S S') := hid (by rw [← hbp, ← HFd.out.zero]; simp)
  have HC := hid (equalZ H2.out.a H2.out.b)
  go_wp2_with fail
  refine HC.out.mono ?_
  rintro e w3 ⟨r1, rfl, HF⟩
  have H3 := hid (H2.out.below HF.out.2)
  have hr1 : r1 = bp := by
    have h1 := HF.out.1
    have h2 := Hbp.out
    cases r1 <;> cases bp <;> simp_all
  subst hr1
  clear HC HF H2
  have HC := hid (equalZ H3.out.b H3.out.a)
  have hbb : (r1 == r1) = true := by cases r1 <;> rfl
  go_wp2_with fail
  refine HC.out.mono ?_
  rintro e w4 ⟨r2, rfl, HF⟩
  have H4 := hid (H3.out.below HF.out.2)
  have hr2 : r2 = r1 := by
    have h1 := HF.out.1
    have h2 := Hbp.out
    have h3 : Sm S' S ↔ Sm S S' := ⟨Sm.symm, Sm.symm⟩
    rw [h3] at h1
    cases r2 <;> cases r1 <;> simp_all
  subst hr2
  clear HC HF H3
  go_wp2
  go_ret
  exact ⟨by first | rfl | simp, H4.out.bel⟩
end
end Go.Proofs.Qxb6500887aGreat
