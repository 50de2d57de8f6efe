/- Access. -/
import Derived.Test.Qxb6500892aTqPap2
namespace Go.Proofs.Qxb6500892a
open Go.RowKit
set_option linter.unusedSimpArgs false
set_option linter.unusedVariables false

theorem recP_le (sl kin kout : Nat) (P : List Nat × List Nat × List Nat) : (recP sl kin kout P).1.length ≤ P.1.length ∧ (recP sl kin kout P).2.2.length ≤ P.2.2.length := by
  unfold recP
  split
  · exact ⟨Nat.le_refl _, Nat.le_refl _⟩
  · split
    · exact ⟨by rw [List.length_dropLast]; omega, Nat.le_refl _⟩
    · exact ⟨Nat.le_refl _, by show P.2.2.dropLast.length ≤ _; rw [List.length_dropLast]; omega⟩
section
variable {B pb sl kin kout : Nat} {a1 : Option Addr} {n1 c1 : Nat} {a2 : Option Addr} {n2 c2 : Nat} {a3 : Option Addr} {n3 c3 : Nat} {I O M l : List Nat} {w w' : World}
set_option maxRecDepth 100000 in
set_option maxHeartbeats 2000000 in
theorem access_walk (h : PPv B pb sl kin kout a1 n1 c1 a2 n2 c2 a3 n3 c3 I O M w) (hk : kin < sl) (hko : kout ≤ 100000) (hO : O.length ≤ kout) (hI : I.length ≤ 150000) (hM : M.length ≤ 150000) (x : Nat) :
    Calls Try.prog 7 #[.pointer (some ⟨pb, 0, none⟩), .int .u64 (x : Int)] w fun y w' => y = .returned (.tuple #[]) ∧ PP B pb sl kin kout (accP sl kin kout (I, O, M) x) w' ∧ Upd pb w w' := by
  have HP := hid h
  have hl1 := h.o1.len
  have hl2 := h.o2.len
  have hl3 := h.o3.len
  have hn1 : n1 ≤ 150000 := by omega
  have hn2 : n2 ≤ 100000 := by omega
  have hn3 : n3 ≤ 150000 := by omega
  have HRc := hid (reclaim_walk h hk hko hO)
  have HLe := hid (recP_le sl kin kout (I, O, M))
  have z3 : w.cell? ⟨pb, 3, none⟩ = some (.slice a1 n1 c1) := h.bk.cell 3
  have z4 : w.cell? ⟨pb, 4, none⟩ = some (.slice a2 n2 c2) := h.bk.cell 4
  have z5 : w.cell? ⟨pb, 5, none⟩ = some (.slice a3 n3 c3) := h.bk.cell 5
  have HLn := hid (And.intro hl1 (And.intro hl2 hl3))
  have hM' : M.length ≤ 150000 := hM
  have HH3 := hid (has_walk (h.o3.rowK (v := nilS) (by omega)) (by omega) x)
  have HH2 := hid (has_walk (h.o2.rowK (v := nilS) (by omega)) (by omega) x)
  have HH1 := hid (has_walk (h.o1.rowK (v := nilS) (by omega)) (by omega) x)
  have hlb : B ≤ w.heap.size := by have := h.bk.lt; have := h.lb; omega
  have HSz := hid (And.intro hI (And.intro hO hM))
  clear h hl1 hl2 hl3 hO hI hM hM'
  go_enter Try.func7, Try.ntmps7
  go_wp2_with fail
  refine HH3.out.mono ?_
  rintro y w1 ⟨rfl, hw1⟩
  have hw1' := hw1.symm
  clear hw1
  subst hw1'
  clear HH3
  by_cases hm3 : x ∈ M
  · as_aux_lemma =>
    rw [decide_eq_true hm3]
    have HA : Hid (accP sl kin kout (I, O, M) x = (I, O, x :: noK M x)) := hid (by unfold accP; rw [if_pos (show x ∈ (I, O, M).2.2 from hm3)])
    have HDr := hid (drop_walk (HP.out.o3.rowK (v := nilS) HP.out.b3) (by omega) x)
    clear hm3 HH1 HH2 HRc
    go_wp2_with fail
    refine HDr.out.mono ?_
    rintro y w2 ⟨a5, n5, c5, rfl, ho5, hb5⟩
    have hl5 := ho5.len
    have hn5 : n5 ≤ 150000 := by
      rw [← hl5]
      exact Nat.le_trans (List.length_filter_le _ _) HSz.out.2.2
    have HAt := hid (atHead_walk (ho5.rowK (v := nilS) (by omega)) (by omega) x)
    have HP2 := hid (HP.out.below hb5)
    have HU2 := hid ((Upd.refl pb w).ofBelow hb5)
    have hs2 := hb5.size
    clear ho5 hb5 HDr
    go_wp2_with fail
    refine HAt.out.mono ?_
    rintro y w3 ⟨a6, n6, c6, rfl, ho6, hb6⟩
    have HP3 := hid (HP2.out.below hb6)
    have HO6 : Hid (OR w3 B 27 1 keyC (.slice a6 n6 c6) (x :: noK M x)) := hid (ho6.mono (by omega))
    have HF : Hid (PP B pb sl kin kout (accP sl kin kout (I, O, M) x) (w3.setCell ⟨pb, 5, none⟩ (.slice a6 n6 c6)) ∧ Upd pb w (w3.setCell ⟨pb, 5, none⟩ (.slice a6 n6 c6))) := hid (by
      rw [HA.out]
      exact ⟨⟨_, _, _, _, _, _, _, _, _, HP3.out.put3 HO6.out (by rw [List.length_cons]; omega)⟩, (HU2.out.ofBelow hb6).setCell rfl _⟩)
    have zc : w3.cell? ⟨pb, 5, none⟩ = some (.slice a3 n3 c3) := HP3.out.bk.cell 5
    have zf : w3.frozen? ⟨pb, 5, none⟩ = false := HP3.out.bk.frozen 5
    clear ho6 hb6 HAt HP2 HP3 HO6 HU2
    go_wp2
    refine bodyPost_end (results_none Try.results7 _ _ _) rfl ?_
    exact ⟨rfl, HF.out.1, HF.out.2⟩
  rw [decide_eq_false hm3]
  go_wp2_with fail
  refine HH2.out.mono ?_
  rintro y w1 ⟨rfl, hw1⟩
  have hw1' := hw1.symm
  clear hw1
  subst hw1'
  clear HH2
  by_cases hm2 : x ∈ O
  · as_aux_lemma =>
    rw [decide_eq_true hm2]
    have HA : Hid (accP sl kin kout (I, O, M) x = ((recP sl kin kout (I, O, M)).1, noK (recP sl kin kout (I, O, M)).2.1 x, x :: (recP sl kin kout (I, O, M)).2.2)) := hid (by unfold accP; rw [if_neg (show x ∉ (I, O, M).2.2 from hm3), if_pos (show x ∈ (I, O, M).2.1 from hm2)])
    generalize recP sl kin kout (I, O, M) = R at HA HRc HLe
    obtain ⟨I', O', M'⟩ := R
    clear hm3 hm2 HH1 z3 z4 z5
    go_wp2_with fail
    refine HRc.out.mono ?_
    rintro y w2 ⟨rfl, ⟨a1, n1, c1, a2, n2, c2, a3, n3, c3, hp2⟩, hu2⟩
    have HP2 := hid hp2
    have HU2 := hid hu2
    have HL2 := hid (And.intro hp2.o1.len (And.intro hp2.o2.len hp2.o3.len))
    have hn2' : n2 ≤ 200000 := by have := HL2.out; have := hp2.b2; omega
    have hn3' : n3 ≤ 150000 := by
      have h1 := HL2.out.2.2
      have h2 := HLe.out.2
      have h3 := HSz.out.2.2
      simp only at h1 h2 h3
      omega
    have hs2 := hu2.size
    have z4 : w2.cell? ⟨pb, 4, none⟩ = some (.slice a2 n2 c2) := hp2.bk.cell 4
    have HDr := hid (drop_walk (hp2.o2.rowK (v := nilS) hp2.b2) (by omega) x)
    clear hp2 hu2 HRc
    go_wp2_with fail
    refine HDr.out.mono ?_
    rintro y w3 ⟨a5, n5, c5, rfl, ho5, hb5⟩
    have HP3 := hid (HP2.out.below hb5)
    have HU3 := hid (HU2.out.ofBelow hb5)
    have hs3 := hb5.size
    have HO5 : Hid (OR w3 B 27 1 keyC (.slice a5 n5 c5) (noK O' x)) := hid (ho5.mono (by omega))
    have zc : w3.cell? ⟨pb, 4, none⟩ = some (.slice a2 n2 c2) := HP3.out.bk.cell 4
    have zf : w3.frozen? ⟨pb, 4, none⟩ = false := HP3.out.bk.frozen 4
    have HP4 : Hid (PPv B pb sl kin kout a1 n1 c1 a5 n5 c5 a3 n3 c3 I' (noK O' x) M' (w3.setCell ⟨pb, 4, none⟩ (.slice a5 n5 c5)) ∧ Upd pb w (w3.setCell ⟨pb, 4, none⟩ (.slice a5 n5 c5))) := hid ⟨HP3.out.put2 HO5.out (Nat.le_trans (List.length_filter_le _ _) HP3.out.b2), HU3.out.setCell rfl _⟩
    clear ho5 hb5 HDr HO5 HP2 HU2
    go_upto_region 7 with fail
    clear zc zf z4
    generalize w3.setCell ⟨pb, 4, none⟩ (.slice a5 n5 c5) = w4 at HP4 ⊢
    have z5 : w4.cell? ⟨pb, 5, none⟩ = some (.slice a3 n3 c3) := HP4.out.1.bk.cell 5
    have HAt := hid (atHead_walk (HP4.out.1.o3.rowK (v := nilS) HP4.out.1.b3) (by omega) x)
    have hs4 := HP4.out.2.size
    go_wp2_with fail
    refine HAt.out.mono ?_
    rintro y w5 ⟨a6, n6, c6, rfl, ho6, hb6⟩
    have HP5 := hid (HP4.out.1.below hb6)
    have HO6 : Hid (OR w5 B 27 1 keyC (.slice a6 n6 c6) (x :: M')) := hid (ho6.mono (by omega))
    have HF : Hid (PP B pb sl kin kout (accP sl kin kout (I, O, M) x) (w5.setCell ⟨pb, 5, none⟩ (.slice a6 n6 c6)) ∧ Upd pb w (w5.setCell ⟨pb, 5, none⟩ (.slice a6 n6 c6))) := hid (by
      rw [HA.out]
      exact ⟨⟨_, _, _, _, _, _, _, _, _, HP5.out.put3 HO6.out (by rw [List.length_cons]; have := HL2.out.2.2; omega)⟩, (HP4.out.2.ofBelow hb6).setCell rfl _⟩)
    have zc : w5.cell? ⟨pb, 5, none⟩ = some (.slice a3 n3 c3) := HP5.out.bk.cell 5
    have zf : w5.frozen? ⟨pb, 5, none⟩ = false := HP5.out.bk.frozen 5
    clear ho6 hb6 HAt HP4 HP5 HO6 HU3 HP3
    go_wp2
    refine bodyPost_end (results_none Try.results7 _ _ _) rfl ?_
    exact ⟨rfl, HF.out.1, HF.out.2⟩
  rw [decide_eq_false hm2]
  go_wp2_with fail
  refine HH1.out.mono ?_
  rintro y w1 ⟨rfl, hw1⟩
  have hw1' := hw1.symm
  clear hw1
  subst hw1'
  clear HH1
  by_cases hm1 : x ∈ I
  · as_aux_lemma =>
    rw [decide_eq_true hm1]
    have HF : Hid (PP B pb sl kin kout (accP sl kin kout (I, O, M) x) w) := hid (by
      have : accP sl kin kout (I, O, M) x = (I, O, M) := by unfold accP; rw [if_neg (show x ∉ (I, O, M).2.2 from hm3), if_neg (show x ∉ (I, O, M).2.1 from hm2), if_pos (show x ∈ (I, O, M).1 from hm1)]
      rw [this]
      exact ⟨_, _, _, _, _, _, _, _, _, HP.out⟩)
    clear hm1 hm2 hm3 HP
    go_wp2
    refine bodyPost_end (results_none Try.results7 _ _ _) rfl ?_
    exact ⟨rfl, HF.out, Upd.refl _ _⟩
  · as_aux_lemma =>
    rw [decide_eq_false hm1]
    have HA : Hid (accP sl kin kout (I, O, M) x = (x :: (recP sl kin kout (I, O, M)).1, (recP sl kin kout (I, O, M)).2.1, (recP sl kin kout (I, O, M)).2.2)) := hid (by unfold accP; rw [if_neg (show x ∉ (I, O, M).2.2 from hm3), if_neg (show x ∉ (I, O, M).2.1 from hm2), if_neg (show x ∉ (I, O, M).1 from hm1)])
    generalize recP sl kin kout (I, O, M) = R at HA HRc HLe
    obtain ⟨I', O', M'⟩ := R
    clear hm3 hm2 hm1 z3 z4 z5
    go_wp2_with fail
    refine HRc.out.mono ?_
    rintro y w2 ⟨rfl, ⟨a1, n1, c1, a2, n2, c2, a3, n3, c3, hp2⟩, hu2⟩
    have HP2 := hid hp2
    have HU2 := hid hu2
    have HL2 := hid hp2.o1.len
    have hn3' : n1 ≤ 150000 := by
      have h1 := HL2.out
      have h2 := HLe.out.1
      have h3 := HSz.out.1
      simp only at h1 h2 h3
      omega
    have hs2 := hu2.size
    have z4 : w2.cell? ⟨pb, 3, none⟩ = some (.slice a1 n1 c1) := hp2.bk.cell 3
    have HAt := hid (atHead_walk (hp2.o1.rowK (v := nilS) hp2.b1) (by omega) x)
    clear hp2 hu2 HRc
    go_wp2_with fail
    refine HAt.out.mono ?_
    rintro y w5 ⟨a6, n6, c6, rfl, ho6, hb6⟩
    have HP5 := hid (HP2.out.below hb6)
    have HO6 : Hid (OR w5 B 27 1 keyC (.slice a6 n6 c6) (x :: I')) := hid (ho6.mono (by omega))
    have HF : Hid (PP B pb sl kin kout (accP sl kin kout (I, O, M) x) (w5.setCell ⟨pb, 3, none⟩ (.slice a6 n6 c6)) ∧ Upd pb w (w5.setCell ⟨pb, 3, none⟩ (.slice a6 n6 c6))) := hid (by
      rw [HA.out]
      exact ⟨⟨_, _, _, _, _, _, _, _, _, HP5.out.put1 HO6.out (by rw [List.length_cons]; have := HL2.out; omega)⟩, (HU2.out.ofBelow hb6).setCell rfl _⟩)
    have zc : w5.cell? ⟨pb, 3, none⟩ = some (.slice a1 n1 c1) := HP5.out.bk.cell 3
    have zf : w5.frozen? ⟨pb, 3, none⟩ = false := HP5.out.bk.frozen 3
    clear ho6 hb6 HAt HP5 HO6 HU2 HP2 z4
    go_wp2
    refine bodyPost_end (results_none Try.results7 _ _ _) rfl ?_
    exact ⟨rfl, HF.out.1, HF.out.2⟩
end
end Go.Proofs.Qxb6500892a
