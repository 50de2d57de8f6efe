/- The model's operations (written by tools/mk_mops.py). -/
import Derived.Test.Qxb6500892aDoorTqM4
namespace Go.Proofs.Qxb6500892aDoor
open Go.RowKit
set_option linter.unusedSimpArgs false
set_option linter.unusedVariables false

def OpP (B pb : Nat) (R : Nat × MS) (w : World) (y : Ending) (w' : World) : Prop := ∃ c : Nat, y = .returned (.int .u8 (c : Int)) ∧ Hid (R.1 = c ∧ MX B pb R.2 w' ∧ UM B w w')
theorem err_cases (m : MS) (x : Int) : errM m x = 0 ∨ errM m x = 1 ∨ errM m x = 4 := by
  unfold errM
  split
  · split
    · exact .inl rfl
    · exact .inr (.inl rfl)
  · exact .inr (.inr rfl)
theorem idle_of {m : MS} {x : Int} {t : TEnt} (he : errM m x = 0) (hf : findE m x = some t) : idleM m x = if 0 < t.pins then 3 else 0 := by
  unfold idleM
  rw [hf, he]
  show (if 0 = 0 ∧ 0 < t.pins then 3 else 0) = _
  by_cases h : 0 < t.pins
  · rw [if_pos ⟨rfl, h⟩, if_pos h]
  · rw [if_neg (fun q => h q.2), if_neg h]
theorem MOk.none {m : MS} (hk : MOk m) {x : Int} (h : errM m x ≠ 0) : findE m x = none := by
  cases hf : findE m x with
  | none => rfl
  | some t =>
    exfalso
    apply h
    have h1 : t ∈ m.I ++ m.M := List.mem_of_find?_eq_some hf
    have h2 : t.slot = x := by simpa using List.find?_some hf
    have h3 := hk.rg t h1
    unfold errM
    rw [if_pos (by omega), hf]
    rfl
theorem idle_err {m : MS} {x : Int} (he : errM m x ≠ 0) : idleM m x = errM m x := by
  unfold idleM
  rw [if_neg (fun q => he q.1)]
theorem gone_len (m : MS) (x : Int) : (goneM m x).length ≤ m.O.length + 1 := by
  unfold goneM
  split
  · omega
  · split
    · rw [List.length_take, List.length_cons]; omega
    · omega
section
variable {B pb : Nat} {a1 : Option Addr} {n1 c1 : Nat} {a2 : Option Addr} {n2 c2 : Nat} {a3 : Option Addr} {n3 c3 : Nat} {m : MS} {w : World}
set_option maxRecDepth 100000 in
set_option maxHeartbeats 2000000 in
theorem mpin_walk (h : MM B pb a1 n1 c1 a2 n2 c2 a3 n3 c3 m w) (hk : MOk m) (x : Int) : Calls Tryd.prog 52 #[.pointer (some ⟨pb, 0, none⟩), .int .i64 x] w fun y w' => OpP B pb (pinM m x) w y w' := by
  have HM := hid h
  have HK := hid hk
  have HEn := hid (mentry_walk h hk x)
  clear h hk
  go_enter Tryd.func52, Tryd.ntmps52
  go_wp2_with fail
  refine HEn.out.mono ?_
  rintro y w1 ⟨hP, hw1⟩
  have hw1' := hw1.symm
  clear hw1
  subst hw1'
  clear HEn
  rcases hP with ⟨h0, kk, hkk, rfl⟩ | ⟨h0, g, i, t, rfl, HP⟩
  · as_aux_lemma =>
    have HF : Hid ((pinM m x).1 = kk ∧ MX B pb ((pinM m x).2) w) := hid (by
      unfold pinM
      rw [hkk, if_neg (by rw [← hkk]; exact h0)]
      exact ⟨rfl, ⟨_, _, _, _, _, _, _, _, _, HM.out⟩⟩)
    have dk : ((kk : Int) != 0) = true := by rw [key_bneI]; exact decide_eq_true (by omega)
    clear h0 hkk
    go_wp2
    go_ret
    exact ⟨kk, rfl, hid ⟨HF.out.1, HF.out.2, UM.refl _ _⟩⟩
  obtain ⟨q0, q1, q2, q3, f2⟩ := HM.out.at HK.out HP.out.1
  have HE := hid h0
  clear h0
  have hpn : 0 ≤ t.pins ∧ t.pins ≤ 1000000 := HK.out.pn t (by
    rcases HP.out.1 with ⟨_, h1⟩ | ⟨_, h1⟩
    · exact List.mem_append_left _ (List.mem_of_getElem? h1)
    · exact List.mem_append_right _ (List.mem_of_getElem? h1))
  obtain ⟨hp0, hp1⟩ := hpn
  have HF : Hid ((pinM m x).1 = 0 ∧ MX B pb (pinM m x).2 (w.setCell ⟨g, i * 4 + 2, none⟩ (.int .i64 (t.pins + 1))) ∧ UM B w (w.setCell ⟨g, i * 4 + 2, none⟩ (.int .i64 (t.pins + 1)))) := hid (by
    have hp := HM.out.pins HP.out.1 HK.out.nd 1
    rw [HP.out.2.2] at hp
    unfold pinM
    rw [if_pos HE.out, HE.out]
    exact ⟨rfl, ⟨_, _, _, _, _, _, _, _, _, hp.1⟩, hp.2⟩)
  clear HE HP
  go_wp2
  go_ret
  exact ⟨0, rfl, hid HF.out⟩
set_option maxRecDepth 100000 in
set_option maxHeartbeats 2000000 in
theorem munpin_walk (h : MM B pb a1 n1 c1 a2 n2 c2 a3 n3 c3 m w) (hk : MOk m) (x : Int) : Calls Tryd.prog 53 #[.pointer (some ⟨pb, 0, none⟩), .int .i64 x] w fun y w' => OpP B pb (unpM m x) w y w' := by
  have HM := hid h
  have HK := hid hk
  have HEn := hid (mentry_walk h hk x)
  clear h hk
  go_enter Tryd.func53, Tryd.ntmps53
  go_wp2_with fail
  refine HEn.out.mono ?_
  rintro y w1 ⟨hP, hw1⟩
  have hw1' := hw1.symm
  clear hw1
  subst hw1'
  clear HEn
  rcases hP with ⟨h0, kk, hkk, rfl⟩ | ⟨h0, g, i, t, rfl, HP⟩
  · as_aux_lemma =>
    have HF : Hid ((unpM m x).1 = kk ∧ MX B pb ((unpM m x).2) w) := hid (by
      unfold unpM
      rw [if_neg h0, hkk]
      exact ⟨rfl, ⟨_, _, _, _, _, _, _, _, _, HM.out⟩⟩)
    have dk : ((kk : Int) != 0) = true := by rw [key_bneI]; exact decide_eq_true (by omega)
    clear h0 hkk
    go_wp2
    go_ret
    exact ⟨kk, rfl, hid ⟨HF.out.1, HF.out.2, UM.refl _ _⟩⟩
  obtain ⟨q0, q1, q2, q3, f2⟩ := HM.out.at HK.out HP.out.1
  have HE := hid h0
  clear h0
  have hpn : 0 ≤ t.pins ∧ t.pins ≤ 1000000 := HK.out.pn t (by
    rcases HP.out.1 with ⟨_, h1⟩ | ⟨_, h1⟩
    · exact List.mem_append_left _ (List.mem_of_getElem? h1)
    · exact List.mem_append_right _ (List.mem_of_getElem? h1))
  obtain ⟨hp0, hp1⟩ := hpn
  by_cases hz : t.pins = 0
  · as_aux_lemma =>
    have dz : (t.pins == 0) = true := by rw [key_beqI]; exact decide_eq_true hz
    have HF : Hid ((unpM m x).1 = 4 ∧ MX B pb (unpM m x).2 w) := hid (by
      unfold unpM
      rw [if_pos HE.out, HP.out.2.1]
      rw [if_pos (show ((some t).map (·.pins)).getD 0 = 0 from hz)]
      exact ⟨rfl, ⟨_, _, _, _, _, _, _, _, _, HM.out⟩⟩)
    clear HE HP hz
    go_wp2
    go_ret
    exact ⟨4, rfl, hid ⟨HF.out.1, HF.out.2, UM.refl _ _⟩⟩
  as_aux_lemma =>
  have dz : (t.pins == 0) = false := by rw [key_beqI]; exact decide_eq_false hz
  have HF : Hid ((unpM m x).1 = 0 ∧ MX B pb (unpM m x).2 (w.setCell ⟨g, i * 4 + 2, none⟩ (.int .i64 (t.pins - 1))) ∧ UM B w (w.setCell ⟨g, i * 4 + 2, none⟩ (.int .i64 (t.pins - 1)))) := hid (by
    have hp := HM.out.pins HP.out.1 HK.out.nd (-1)
    rw [HP.out.2.2, show t.pins + -1 = t.pins - 1 by omega] at hp
    unfold unpM
    rw [if_pos HE.out, HP.out.2.1, if_neg (show ¬ ((some t).map (·.pins)).getD 0 = 0 from hz)]
    exact ⟨rfl, ⟨_, _, _, _, _, _, _, _, _, hp.1⟩, hp.2⟩)
  clear HE HP
  go_wp2
  go_ret
  exact ⟨0, rfl, hid HF.out⟩
set_option maxRecDepth 100000 in
set_option maxHeartbeats 2000000 in
theorem mevict_walk (h : MM B pb a1 n1 c1 a2 n2 c2 a3 n3 c3 m w) (hk : MOk m) (x : Int) : Calls Tryd.prog 55 #[.pointer (some ⟨pb, 0, none⟩), .int .i64 x] w fun y w' => OpP B pb (eviM m x) w y w' := by
  have HM := hid h
  have HK := hid hk
  have HEn := hid (mentry_walk h hk x)
  clear h hk
  go_enter Tryd.func55, Tryd.ntmps55
  go_wp2_with fail
  refine HEn.out.mono ?_
  rintro y w1 ⟨hP, hw1⟩
  have hw1' := hw1.symm
  clear hw1
  subst hw1'
  clear HEn
  rcases hP with ⟨h0, kk, hkk, rfl⟩ | ⟨h0, g, i, t, rfl, HP⟩
  · as_aux_lemma =>
    have HF : Hid ((eviM m x).1 = kk ∧ MX B pb ((eviM m x).2) w) := hid (by
      unfold eviM
      rw [idle_err h0, if_neg h0, hkk]
      exact ⟨rfl, ⟨_, _, _, _, _, _, _, _, _, HM.out⟩⟩)
    have dk : ((kk : Int) != 0) = true := by rw [key_bneI]; exact decide_eq_true (by omega)
    clear h0 hkk
    go_wp2
    go_ret
    exact ⟨kk, rfl, hid ⟨HF.out.1, HF.out.2, UM.refl _ _⟩⟩
  obtain ⟨q0, q1, q2, q3, f2⟩ := HM.out.at HK.out HP.out.1
  have HE := hid h0
  clear h0
  by_cases hpin : 0 < t.pins
  · as_aux_lemma =>
    have d1 : decide (t.pins > 0) = true := decide_eq_true hpin
    have d2 : decide (0 < t.pins) = true := decide_eq_true hpin
    have HF : Hid ((eviM m x).1 = 3 ∧ MX B pb (eviM m x).2 w) := hid (by
      have e : idleM m x = 3 := by rw [idle_of HE.out HP.out.2.1, if_pos hpin]
      unfold eviM
      rw [e, if_neg (by omega)]
      exact ⟨rfl, ⟨_, _, _, _, _, _, _, _, _, HM.out⟩⟩)
    clear HE HP
    go_wp2
    go_ret
    exact ⟨3, rfl, hid ⟨HF.out.1, HF.out.2, UM.refl _ _⟩⟩
  have d1 : decide (t.pins > 0) = false := decide_eq_false hpin
  have d2 : decide (0 < t.pins) = false := decide_eq_false hpin
  have HId : Hid (idleM m x = 0) := hid (by rw [idle_of HE.out HP.out.2.1, if_neg hpin])
  have HPg := hid (pageOut_walk HM.out HK.out x HE.out)
  have HF : Hid ((eviM m x).1 = 0 ∧ (eviM m x).2 = pgM m x) := hid (by
    unfold eviM
    rw [HId.out, if_pos rfl]
    exact ⟨rfl, rfl⟩)
  clear HE HP HId
  go_wp2_with fail
  refine HPg.out.mono ?_
  rintro y w2 ⟨rfl, hm2, hu2⟩
  have HG : Hid ((eviM m x).1 = 0 ∧ MX B pb (eviM m x).2 w2 ∧ UM B w w2) := hid ⟨HF.out.1, by rw [HF.out.2]; exact hm2, HM.out.um hu2⟩
  clear hm2 hu2 HPg HF
  go_wp2
  go_ret
  exact ⟨0, rfl, hid HG.out⟩
set_option maxRecDepth 100000 in
set_option maxHeartbeats 2000000 in
theorem mremove_walk (h : MM B pb a1 n1 c1 a2 n2 c2 a3 n3 c3 m w) (hk : MOk m) (x : Int) : Calls Tryd.prog 51 #[.pointer (some ⟨pb, 0, none⟩), .int .i64 x] w fun y w' => OpP B pb (remM m x) w y w' := by
  have HM := hid h
  have HK := hid hk
  have HEn := hid (mentry_walk h hk x)
  clear h hk
  go_enter Tryd.func51, Tryd.ntmps51
  go_wp2_with fail
  refine HEn.out.mono ?_
  rintro y w1 ⟨hP, hw1⟩
  have hw1' := hw1.symm
  clear hw1
  subst hw1'
  clear HEn
  rcases hP with ⟨h0, kk, hkk, rfl⟩ | ⟨h0, g, i, t, rfl, HP⟩
  · as_aux_lemma =>
    have HF : Hid ((remM m x).1 = kk ∧ MX B pb ((remM m x).2) w) := hid (by
      unfold remM
      rw [idle_err h0, if_neg h0, hkk]
      exact ⟨rfl, ⟨_, _, _, _, _, _, _, _, _, HM.out⟩⟩)
    have dk : ((kk : Int) != 0) = true := by rw [key_bneI]; exact decide_eq_true (by omega)
    clear h0 hkk
    go_wp2
    go_ret
    exact ⟨kk, rfl, hid ⟨HF.out.1, HF.out.2, UM.refl _ _⟩⟩
  obtain ⟨q0, q1, q2, q3, f2⟩ := HM.out.at HK.out HP.out.1
  have HE := hid h0
  clear h0
  by_cases hpin : 0 < t.pins
  · as_aux_lemma =>
    have d1 : decide (t.pins > 0) = true := decide_eq_true hpin
    have d2 : decide (0 < t.pins) = true := decide_eq_true hpin
    have HF : Hid ((remM m x).1 = 3 ∧ MX B pb (remM m x).2 w) := hid (by
      have e : idleM m x = 3 := by rw [idle_of HE.out HP.out.2.1, if_pos hpin]
      unfold remM
      rw [e, if_neg (by omega)]
      exact ⟨rfl, ⟨_, _, _, _, _, _, _, _, _, HM.out⟩⟩)
    clear HE HP
    go_wp2
    go_ret
    exact ⟨3, rfl, hid ⟨HF.out.1, HF.out.2, UM.refl _ _⟩⟩
  have d1 : decide (t.pins > 0) = false := decide_eq_false hpin
  have d2 : decide (0 < t.pins) = false := decide_eq_false hpin
  have HId : Hid (idleM m x = 0) := hid (by rw [idle_of HE.out HP.out.2.1, if_neg hpin])
  have HR : Hid ((remM m x).1 = 0 ∧ (remM m x).2 = outM m x) := hid (by
    unfold remM
    rw [HId.out, if_pos rfl]
    exact ⟨rfl, rfl⟩)
  clear HE HId HP
  go_upto_region 6 with fail
  have HWo : Hid (∀ wz, Below w.heap.size w wz → ∀ a' n' c' l', OR wz B 64 4 entC (.slice a' n' c') l' → l'.length ≤ 131072 → Calls Tryd.prog 69 #[.slice a' n' c', .int .i64 x] wz fun y w' => ∃ a' n' c', y = .returned (.slice a' n' c') ∧ OR w' wz.heap.size 64 4 entC (.slice a' n' c') (woutI l' x) ∧ Below wz.heap.size wz w') := hid (fun wz hz a' n' c' l' ho hl => without_walk (ho.rowE (by omega)) (by have := ho.lenS; omega) x)
  refine wp_region_heavy (fun w4 => w4.cell? ⟨pb, 5, none⟩ = some (.slice a2 n2 c2)) 17 [0, 1, 2, 3, 4, 6, 8, 9, 10, 11, 12] [5, 7, 13, 14, 15, 16] rfl (by kernel_rfl) (by kernel_rfl) (fun d _ _ _ _ h => by cases d <;> exact h) (HM.out.bk.cell 5) ?_
  apply Exists.intro
  refine ⟨?_, ?_⟩
  · intro W hW
    have d5 : ∀ x, (W x).cell? ⟨pb, 5, none⟩ = some (.slice a2 n2 c2) := fun u => hW u
    clear hW
    simp only [List.take, opsAt, List.drop, List.cons_append, List.nil_append]
    repeat (go_big_quiet_step (fail))
    exact rfl
  simp only [List.take, List.drop, opsAt, List.cons_append, List.nil_append, wpHv]
  have HBd : Hid (Below w.heap.size w w.drew) := hid (Drew.below ⟨1, rfl⟩ _)
  generalize w.drew = wd at HBd ⊢
  have HMd := hid (HM.out.below HBd.out)
  have z4 : wd.cell? ⟨pb, 4, none⟩ = some (.slice a1 n1 c1) := HMd.out.bk.cell 4
  have s0 : wd.cell? ⟨pb, 5, none⟩ = some (.slice a2 n2 c2) := HMd.out.bk.cell 5
  clear q0 q1 q2 q3 f2
  go_wp2_with fail
  refine ⟨s0, ?_⟩
  go_wp2_with fail
  refine (HWo.out wd HBd.out a1 n1 c1 m.I HMd.out.o1 HK.out.l1).mono ?_
  rintro y w5 ⟨a5, n5, c5, rfl, ho5, hb5⟩
  have HO5 := hid ho5
  have HM5 := hid (HMd.out.below hb5)
  have HB5 : Hid (Below w.heap.size w w5) := hid (HBd.out.trans (hb5.mono HBd.out.size))
  have s1 : w5.cell? ⟨pb, 5, none⟩ = some (.slice a2 n2 c2) := HM5.out.bk.cell 5
  clear ho5 hb5 z4 s0
  go_wp2_with fail
  refine ⟨s1, ?_⟩
  go_wp2_with fail
  refine (HWo.out w5 HB5.out a2 n2 c2 m.M HM5.out.o2 HK.out.l2).mono ?_
  rintro y w6 ⟨a6, n6, c6, rfl, ho6, hb6⟩
  have HO6 := hid ho6
  have HM6 := hid (HM5.out.below hb6)
  have HB6 : Hid (Below w.heap.size w w6) := hid (HB5.out.trans (hb6.mono HB5.out.size))
  have HO56 := hid (HO5.out.below hb6)
  have s2 : w6.cell? ⟨pb, 5, none⟩ = some (.slice a2 n2 c2) := HM6.out.bk.cell 5
  have z4 : w6.cell? ⟨pb, 4, none⟩ = some (.slice a1 n1 c1) := HM6.out.bk.cell 4
  have f4 : w6.frozen? ⟨pb, 4, none⟩ = false := HM6.out.bk.frozen 4
  have s3 : (w6.setCell ⟨pb, 4, none⟩ (.slice a5 n5 c5)).cell? ⟨pb, 5, none⟩ = some (.slice a2 n2 c2) := (HM6.out.bk.set 4 (.slice a5 n5 c5)).cell 5
  have f5 : (w6.setCell ⟨pb, 4, none⟩ (.slice a5 n5 c5)).frozen? ⟨pb, 5, none⟩ = false := (HM6.out.bk.set 4 (.slice a5 n5 c5)).frozen 5
  have HG : Hid ((remM m x).1 = 0 ∧ MX B pb (remM m x).2 ((w6.setCell ⟨pb, 4, none⟩ (.slice a5 n5 c5)).setCell ⟨pb, 5, none⟩ (.slice a6 n6 c6)) ∧ UM B w ((w6.setCell ⟨pb, 4, none⟩ (.slice a5 n5 c5)).setCell ⟨pb, 5, none⟩ (.slice a6 n6 c6))) := hid (by
    have g1 := HM.out.b0
    have g3 := HBd.out.size
    have g4 := HB5.out.size
    have hu : Upd pb w6 ((w6.setCell ⟨pb, 4, none⟩ (.slice a5 n5 c5)).setCell ⟨pb, 5, none⟩ (.slice a6 n6 c6)) := ((Upd.refl pb w6).setCell rfl _).setCell rfl _
    rw [HR.out.2]
    exact ⟨HR.out.1, ⟨_, _, _, _, _, _, _, _, _, HM6.out.put12 (HO56.out.mono (by omega)) (HO6.out.mono (by omega)) (HO5.out.apart HO6.out (Nat.le_refl _))⟩, HM.out.um (((Upd.refl pb w).ofBelow HB6.out).trans hu)⟩)
  clear ho6 hb6 HWo HO5 HO6 HO56 HM5 HM6 HB5 HB6 HMd HBd s1 HR
  go_wp2_with fail
  refine ⟨s2, ?_⟩
  go_wp2_with fail
  refine ⟨s2, ?_⟩
  go_wp2_with fail
  refine ⟨s2, ?_⟩
  go_wp2_with fail
  refine ⟨s3, ?_⟩
  simp only [QN]
  go_wp2
  go_ret
  exact ⟨0, rfl, hid HG.out⟩
set_option maxRecDepth 100000 in
set_option maxHeartbeats 2000000 in
theorem mtouch_walk (h : MM B pb a1 n1 c1 a2 n2 c2 a3 n3 c3 m w) (hk : MOk m) (x : Int) : Calls Tryd.prog 50 #[.pointer (some ⟨pb, 0, none⟩), .int .i64 x] w fun y w' => OpP B pb (touM m x) w y w' := by
  have HM := hid h
  have HK := hid hk
  have HEn := hid (mentry_walk h hk x)
  clear h hk
  go_enter Tryd.func50, Tryd.ntmps50
  go_wp2_with fail
  refine HEn.out.mono ?_
  rintro y w1 ⟨hP, hw1⟩
  have hw1' := hw1.symm
  clear hw1
  subst hw1'
  clear HEn
  rcases hP with ⟨h0, kk, hkk, rfl⟩ | ⟨h0, g, i, t, rfl, HP⟩
  · as_aux_lemma =>
    have HF : Hid ((touM m x).1 = kk ∧ MX B pb ((touM m x).2) w) := hid (by
      have e : (touM m x).2 = m := by
        unfold touM
        cases hf : findE m x with
        | none => rfl
        | some e => exact if_neg (fun q => h0 q.1)
      rw [e]
      exact ⟨hkk, ⟨_, _, _, _, _, _, _, _, _, HM.out⟩⟩)
    have dk : ((kk : Int) != 0) = true := by rw [key_bneI]; exact decide_eq_true (by omega)
    clear h0 hkk
    go_wp2
    go_ret
    exact ⟨kk, rfl, hid ⟨HF.out.1, HF.out.2, UM.refl _ _⟩⟩
  obtain ⟨q0, q1, q2, q3, f2⟩ := HM.out.at HK.out HP.out.1
  have HE := hid h0
  clear h0
  have HIa := hid (inAm_walk HM.out HK.out.l2 x)
  obtain ⟨bA, hbA⟩ : ∃ b, inAm m x = b := ⟨_, rfl⟩
  rw [hbA] at HIa
  have HR : Hid (touM m x = (0, if bA = true then { m with M := t :: woutI m.M x } else m)) := hid (by
    unfold touM
    rw [HP.out.2.1, HE.out, hbA]
    cases bA <;> simp)
  clear hbA HE
  go_wp2_with fail
  refine HIa.out.mono ?_
  rintro y w1 ⟨rfl, hb1⟩
  have HB1 := hid hb1
  have HM1 := hid (HM.out.below hb1)
  clear hb1 HIa q0 q1 q2 q3 f2
  cases bA with
  | false =>
    as_aux_lemma =>
    have HG : Hid ((touM m x).1 = 0 ∧ MX B pb (touM m x).2 w1 ∧ UM B w w1) := hid (by
      rw [HR.out]
      exact ⟨rfl, ⟨_, _, _, _, _, _, _, _, _, HM1.out⟩, UM.ofBelow HB1.out⟩)
    clear HR HM1 HB1 HP
    go_wp2
    go_ret
    exact ⟨0, rfl, hid HG.out⟩
  | true =>
  as_aux_lemma =>
  go_upto_region 5 with fail
  have HWo : Hid (∀ wz, Below w1.heap.size w1 wz → ∀ a' n' c' l', OR wz B 64 4 entC (.slice a' n' c') l' → l'.length ≤ 131072 → Calls Tryd.prog 69 #[.slice a' n' c', .int .i64 x] wz fun y w' => ∃ a' n' c', y = .returned (.slice a' n' c') ∧ OR w' wz.heap.size 64 4 entC (.slice a' n' c') (woutI l' x) ∧ Below wz.heap.size wz w') := hid (fun wz hz a' n' c' l' ho hl => without_walk (ho.rowE (by omega)) (by have := ho.lenS; omega) x)
  have HIf : Hid (∀ wz a' n' c' l', OR wz w1.heap.size 64 4 entC (.slice a' n' c') l' → l'.length ≤ 131072 → Calls Tryd.prog 68 #[.agg #[.int .i64 t.slot, .int .u64 t.key, .int .i64 t.pins, .bool t.neg], .slice a' n' c'] wz fun y w' => ∃ a' n' c', y = .returned (.slice a' n' c') ∧ OR w' wz.heap.size 64 4 entC (.slice a' n' c') (t :: l') ∧ Below wz.heap.size wz w') := hid (fun wz a' n' c' l' ho hl => inFront_walk (ho.rowE (by omega)) (by have := ho.lenS; omega) t)
  refine wp_region_heavy (fun w3 => Below w1.heap.size w1 w3) 11 [0, 1, 2, 3, 4, 5, 6, 7, 8] [9, 10] rfl (by kernel_rfl) (by kernel_rfl) (fun d _ _ _ _ h => by cases d <;> exact h) (Drew.below ⟨1, rfl⟩ _) ?_
  apply Exists.intro
  refine ⟨?_, ?_⟩
  · intro W hW
    have d5 : ∀ x, (W x).cell? ⟨pb, 5, none⟩ = some (.slice a2 n2 c2) := fun u => (HM1.out.bk.below (hW u)).cell 5
    have e0 : ∀ u, (W u).cell? ⟨g, i * 4, none⟩ = some (.int .i64 t.slot) := fun u => ((HM1.out.below (hW u)).at HK.out HP.out.1).1
    have e1 : ∀ u, (W u).cell? ⟨g, i * 4 + 1, none⟩ = some (.int .u64 t.key) := fun u => ((HM1.out.below (hW u)).at HK.out HP.out.1).2.1
    have e2 : ∀ u, (W u).cell? ⟨g, i * 4 + 2, none⟩ = some (.int .i64 t.pins) := fun u => ((HM1.out.below (hW u)).at HK.out HP.out.1).2.2.1
    have e3 : ∀ u, (W u).cell? ⟨g, i * 4 + 3, none⟩ = some (.bool t.neg) := fun u => ((HM1.out.below (hW u)).at HK.out HP.out.1).2.2.2.1
    clear hW
    simp only [List.take, opsAt, List.drop, List.cons_append, List.nil_append]
    repeat (go_big_quiet_step (fail))
    exact rfl
  simp only [List.take, List.drop, opsAt, List.cons_append, List.nil_append, wpHv]
  have HBd : Hid (Below w1.heap.size w1 w1.drew) := hid (Drew.below ⟨1, rfl⟩ _)
  generalize w1.drew = wd at HBd ⊢
  have HMd := hid (HM1.out.below HBd.out)
  go_wp2_with fail
  refine (HWo.out wd HBd.out a2 n2 c2 m.M HMd.out.o2 HK.out.l2).mono ?_
  rintro y w5 ⟨a5, n5, c5, rfl, ho5, hb5⟩
  have HO5 := hid ho5
  have HB5 : Hid (Below w1.heap.size w1 w5) := hid (HBd.out.trans (hb5.mono HBd.out.size))
  clear ho5 hb5
  go_wp2_with fail
  refine ⟨HB5.out, ?_⟩
  go_wp2_with fail
  refine (HIf.out w5 a5 n5 c5 (woutI m.M x) (HO5.out.mono HBd.out.size) (Nat.le_trans (wout_len _ _) HK.out.l2)).mono ?_
  rintro y w6 ⟨a6, n6, c6, rfl, ho6, hb6⟩
  have HB6 : Hid (Below w1.heap.size w1 w6) := hid (HB5.out.trans (hb6.mono HB5.out.size))
  have HM6 := hid (HM1.out.below HB6.out)
  have HG : Hid ((touM m x).1 = 0 ∧ MX B pb (touM m x).2 (w6.setCell ⟨pb, 5, none⟩ (.slice a6 n6 c6)) ∧ UM B w (w6.setCell ⟨pb, 5, none⟩ (.slice a6 n6 c6))) := hid (by
    have g1 := HM.out.b0
    have g2 := HB1.out.size
    have g3 := HB5.out.size
    rw [HR.out]
    exact ⟨rfl, ⟨_, _, _, _, _, _, _, _, _, HM6.out.put2 (ho6.mono (by omega)) (HM.out.o1.apart ho6 (by omega))⟩, HM.out.um ((((Upd.refl pb w).ofBelow HB1.out).ofBelow HB6.out).setCell rfl _)⟩)
  have zc : w6.cell? ⟨pb, 5, none⟩ = some (.slice a2 n2 c2) := HM6.out.bk.cell 5
  have zf : w6.frozen? ⟨pb, 5, none⟩ = false := HM6.out.bk.frozen 5
  clear ho6 hb6 HIf HWo HM6 HMd HO5 HB5 HBd HR HM1 HB1 HP
  go_wp2_with fail
  refine ⟨HB6.out, ?_⟩
  simp only [QN]
  go_wp2
  go_ret
  exact ⟨0, rfl, hid HG.out⟩
set_option maxRecDepth 100000 in
set_option maxHeartbeats 2000000 in
theorem msetneg_walk (h : MM B pb a1 n1 c1 a2 n2 c2 a3 n3 c3 m w) (hk : MOk m) (x : Int) (b : Bool) : Calls Tryd.prog 58 #[.pointer (some ⟨pb, 0, none⟩), .int .i64 x, .bool b] w fun y w' => OpP B pb (sngM m x b) w y w' := by
  have HM := hid h
  have HK := hid hk
  have HEn := hid (mentry_walk h hk x)
  clear h hk
  go_enter Tryd.func58, Tryd.ntmps58
  go_wp2_with fail
  refine HEn.out.mono ?_
  rintro y w1 ⟨hP, hw1⟩
  have hw1' := hw1.symm
  clear hw1
  subst hw1'
  clear HEn
  rcases hP with ⟨h0, kk, hkk, rfl⟩ | ⟨h0, g, i, t, rfl, HP⟩
  · as_aux_lemma =>
    have HF : Hid ((sngM m x b).1 = kk ∧ MX B pb ((sngM m x b).2) w) := hid (by
      have e : (sngM m x b).2 = m := by
        have hf : findE m x = none := HK.out.none h0
        unfold sngM
        rw [hf]
      rw [e]
      exact ⟨hkk, ⟨_, _, _, _, _, _, _, _, _, HM.out⟩⟩)
    have dk : ((kk : Int) != 0) = true := by rw [key_bneI]; exact decide_eq_true (by omega)
    clear h0 hkk
    go_wp2
    go_ret
    exact ⟨kk, rfl, hid ⟨HF.out.1, HF.out.2, UM.refl _ _⟩⟩
  obtain ⟨q0, q1, q2, q3, f2⟩ := HM.out.at HK.out HP.out.1
  have HE := hid h0
  clear h0
  obtain ⟨bN, hbN⟩ : ∃ b, t.neg = b := ⟨_, rfl⟩
  by_cases hs : bN = b
  · as_aux_lemma =>
    have HG : Hid ((sngM m x b).1 = 0 ∧ MX B pb (sngM m x b).2 w ∧ UM B w w) := hid (by
      have e : sngM m x b = (0, m) := by
        unfold sngM
        rw [HP.out.2.1, HE.out]
        show (0, if t.neg = b then m else _) = _
        rw [if_pos (hbN.trans hs)]
      rw [e]
      exact ⟨rfl, ⟨_, _, _, _, _, _, _, _, _, HM.out⟩, UM.refl _ _⟩)
    rw [hbN] at q3
    clear HE HP hbN
    subst hs
    cases bN <;> go_wp2 <;> go_ret <;> exact ⟨0, rfl, hid HG.out⟩
  as_aux_lemma =>
  have HR : Hid (sngM m x b = (0, { m with I := { t with neg := b } :: woutI m.I x, M := woutI m.M x })) := hid (by
    unfold sngM
    rw [HP.out.2.1, HE.out]
    show (0, if t.neg = b then m else _) = _
    rw [if_neg (by rw [hbN]; exact hs)])
  clear HE
  obtain ⟨p9, hp9⟩ : ∃ p, w.heap.size = p := ⟨_, rfl⟩
  rw [hbN] at q3
  have db : (Value.bool bN, Value.bool b) = (Value.bool bN, Value.bool b) := rfl
  have HB0 : Hid (Blk (w.alloc (.cells #[.int .i64 t.slot, .int .u64 t.key, .int .i64 t.pins, .bool bN] 64)) p9 64 [.int .i64 t.slot, .int .u64 t.key, .int .i64 t.pins, .bool bN] ∧ Below w.heap.size w (w.alloc (.cells #[.int .i64 t.slot, .int .u64 t.key, .int .i64 t.pins, .bool bN] 64))) := hid (by
    have k1 := Blk.new w [.int .i64 t.slot, .int .u64 t.key, .int .i64 t.pins, .bool bN] 64
    rw [hp9] at k1
    exact ⟨k1, nbel w _⟩)
  have hs2 : b = !bN := by cases b <;> cases bN <;> simp at hs ⊢
  clear hbN hs HP
  subst hs2
  cases bN with
  | false =>
    as_aux_lemma =>
    go_upto_region 7 with fail
    generalize w.alloc (.cells #[.int .i64 t.slot, .int .u64 t.key, .int .i64 t.pins, .bool false] 64) = w9 at HB0 ⊢
    have m3 : w9.cell? ⟨p9, 3, none⟩ = some (.bool false) := HB0.out.1.cell 3
    have f3 : w9.frozen? ⟨p9, 3, none⟩ = false := HB0.out.1.frozen 3
    have HBx : Hid (Below w.heap.size w (w9.setCell ⟨p9, 3, none⟩ (.bool true)) ∧ Blk (w9.setCell ⟨p9, 3, none⟩ (.bool true)) p9 64 [.int .i64 t.slot, .int .u64 t.key, .int .i64 t.pins, .bool true]) := hid ⟨HB0.out.2.trans (((Upd.refl p9 w9).setCell rfl _).below (by omega) HB0.out.2.size), HB0.out.1.set 3 _⟩
    go_upto_region 8 with fail
    clear m3 f3 HB0 q0 q1 q2 q3 f2
    (try simp only [Bool.not_true, Bool.not_false])
    generalize w9.setCell ⟨p9, 3, none⟩ (.bool true) = wx at HBx ⊢
    have HMx := hid (HM.out.below HBx.out.1)
    have HIf : Hid (∀ wz a' n' c' l', OR wz B 64 4 entC (.slice a' n' c') l' → l'.length ≤ 131072 → Calls Tryd.prog 68 #[.agg #[.int .i64 t.slot, .int .u64 t.key, .int .i64 t.pins, .bool true], .slice a' n' c'] wz fun y w' => ∃ a' n' c', y = .returned (.slice a' n' c') ∧ OR w' wz.heap.size 64 4 entC (.slice a' n' c') ({ t with neg := true } :: l') ∧ Below wz.heap.size wz w') := hid (fun wz a' n' c' l' ho hl => inFront_walk (ho.rowE (by omega)) (by have := ho.lenS; omega) { t with neg := true })
    have HWo : Hid (∀ wz, Below wx.heap.size wx wz → ∀ a' n' c' l', OR wz B 64 4 entC (.slice a' n' c') l' → l'.length ≤ 131072 → Calls Tryd.prog 69 #[.slice a' n' c', .int .i64 x] wz fun y w' => ∃ a' n' c', y = .returned (.slice a' n' c') ∧ OR w' wz.heap.size 64 4 entC (.slice a' n' c') (woutI l' x) ∧ Below wz.heap.size wz w') := hid (fun wz hz a' n' c' l' ho hl => without_walk (ho.rowE (by omega)) (by have := ho.lenS; omega) x)
    refine wp_region_heavy (fun w4 => w4.cell? ⟨pb, 5, none⟩ = some (.slice a2 n2 c2) ∧ w4.cell? ⟨p9, 0, none⟩ = some (.int .i64 t.slot) ∧ w4.cell? ⟨p9, 1, none⟩ = some (.int .u64 t.key) ∧ w4.cell? ⟨p9, 2, none⟩ = some (.int .i64 t.pins) ∧ w4.cell? ⟨p9, 3, none⟩ = some (.bool true)) 19 [0, 1, 2, 3, 4, 5, 7, 10, 11, 12, 13, 14] [6, 8, 9, 15, 16, 17, 18] rfl (by kernel_rfl) (by kernel_rfl) (fun d _ _ _ _ h => by cases d <;> exact h) ⟨HMx.out.bk.cell 5, HBx.out.2.cell 0, HBx.out.2.cell 1, HBx.out.2.cell 2, HBx.out.2.cell 3⟩ ?_
    apply Exists.intro
    refine ⟨?_, ?_⟩
    · intro W hW
      have d5 : ∀ x, (W x).cell? ⟨pb, 5, none⟩ = some (.slice a2 n2 c2) := fun u => (hW u).1
      have e0 : ∀ u, (W u).cell? ⟨p9, 0, none⟩ = some (.int .i64 t.slot) := fun u => (hW u).2.1
      have e1 : ∀ u, (W u).cell? ⟨p9, 1, none⟩ = some (.int .u64 t.key) := fun u => (hW u).2.2.1
      have e2 : ∀ u, (W u).cell? ⟨p9, 2, none⟩ = some (.int .i64 t.pins) := fun u => (hW u).2.2.2.1
      have e3 : ∀ u, (W u).cell? ⟨p9, 3, none⟩ = some (.bool true) := fun u => (hW u).2.2.2.2
      clear hW
      simp only [List.take, opsAt, List.drop, List.cons_append, List.nil_append]
      repeat (go_big_quiet_step (fail))
      exact rfl
    simp only [List.take, List.drop, opsAt, List.cons_append, List.nil_append, wpHv]
    have HBd : Hid (Below wx.heap.size wx wx.drew) := hid (Drew.below ⟨1, rfl⟩ _)
    generalize wx.drew = wd at HBd ⊢
    have HMd := hid (HMx.out.below HBd.out)
    have HS : Hid (∀ wz, Below wx.heap.size wx wz → wz.cell? ⟨pb, 5, none⟩ = some (.slice a2 n2 c2) ∧ wz.cell? ⟨p9, 0, none⟩ = some (.int .i64 t.slot) ∧ wz.cell? ⟨p9, 1, none⟩ = some (.int .u64 t.key) ∧ wz.cell? ⟨p9, 2, none⟩ = some (.int .i64 t.pins) ∧ wz.cell? ⟨p9, 3, none⟩ = some (.bool true)) := hid (fun wz hz => by
      have k1 := HMx.out.bk.below hz
      have k2 := HBx.out.2.below hz
      exact ⟨k1.cell 5, k2.cell 0, k2.cell 1, k2.cell 2, k2.cell 3⟩)
    have z4 : wd.cell? ⟨pb, 4, none⟩ = some (.slice a1 n1 c1) := HMd.out.bk.cell 4
    go_wp2_with fail
    refine ⟨HS.out _ HBd.out, ?_⟩
    go_wp2_with fail
    refine (HWo.out wd HBd.out a1 n1 c1 m.I HMd.out.o1 HK.out.l1).mono ?_
    rintro y w5 ⟨a5, n5, c5, rfl, ho5, hb5⟩
    have HO5 := hid ho5
    have HB5 : Hid (Below wx.heap.size wx w5) := hid (HBd.out.trans (hb5.mono HBd.out.size))
    clear ho5 hb5 z4
    go_wp2_with fail
    refine ⟨HS.out _ HB5.out, ?_⟩
    go_wp2_with fail
    refine (HIf.out w5 a5 n5 c5 (woutI m.I x) (HO5.out.mono (by have := HM.out.b0; have := HBx.out.1.size; have := HBd.out.size; omega)) (Nat.le_trans (wout_len _ _) HK.out.l1)).mono ?_
    rintro y w7 ⟨a7, n7, c7, rfl, ho7, hb7⟩
    have HO7 := hid ho7
    have HB7 : Hid (Below wx.heap.size wx w7) := hid (HB5.out.trans (hb7.mono HB5.out.size))
    have HM7 := hid (HMx.out.below HB7.out)
    clear ho7 hb7
    go_wp2_with fail
    refine ⟨HS.out _ HB7.out, ?_⟩
    go_wp2_with fail
    refine (HWo.out w7 HB7.out a2 n2 c2 m.M HM7.out.o2 HK.out.l2).mono ?_
    rintro y w6 ⟨a6, n6, c6, rfl, ho6, hb6⟩
    have HO6 := hid ho6
    have HB6 : Hid (Below wx.heap.size wx w6) := hid (HB7.out.trans (hb6.mono HB7.out.size))
    have HM6 := hid (HMx.out.below HB6.out)
    have HO76 := hid (HO7.out.below hb6)
    have z4 : w6.cell? ⟨pb, 4, none⟩ = some (.slice a1 n1 c1) := HM6.out.bk.cell 4
    have f4 : w6.frozen? ⟨pb, 4, none⟩ = false := HM6.out.bk.frozen 4
    have s3 : (w6.setCell ⟨pb, 4, none⟩ (.slice a7 n7 c7)).cell? ⟨pb, 5, none⟩ = some (.slice a2 n2 c2) := (HM6.out.bk.set 4 (.slice a7 n7 c7)).cell 5
    have f5 : (w6.setCell ⟨pb, 4, none⟩ (.slice a7 n7 c7)).frozen? ⟨pb, 5, none⟩ = false := (HM6.out.bk.set 4 (.slice a7 n7 c7)).frozen 5
    have HS6 := hid (HS.out w6 HB6.out)
    have HS7 : Hid ((w6.setCell ⟨pb, 4, none⟩ (.slice a7 n7 c7)).cell? ⟨pb, 5, none⟩ = some (.slice a2 n2 c2) ∧ (w6.setCell ⟨pb, 4, none⟩ (.slice a7 n7 c7)).cell? ⟨p9, 0, none⟩ = some (.int .i64 t.slot) ∧ (w6.setCell ⟨pb, 4, none⟩ (.slice a7 n7 c7)).cell? ⟨p9, 1, none⟩ = some (.int .u64 t.key) ∧ (w6.setCell ⟨pb, 4, none⟩ (.slice a7 n7 c7)).cell? ⟨p9, 2, none⟩ = some (.int .i64 t.pins) ∧ (w6.setCell ⟨pb, 4, none⟩ (.slice a7 n7 c7)).cell? ⟨p9, 3, none⟩ = some (.bool true)) := hid (by
      have k2 := HBx.out.2.below HB6.out
      have k3 := k2.upd ((Upd.refl pb w6).setCell (p := ⟨pb, 4, none⟩) rfl (.slice a7 n7 c7)) (k2.tne HM6.out.bk (by decide))
      exact ⟨s3, k3.cell 0, k3.cell 1, k3.cell 2, k3.cell 3⟩)
    have HG : Hid ((sngM m x true).1 = 0 ∧ MX B pb (sngM m x true).2 ((w6.setCell ⟨pb, 4, none⟩ (.slice a7 n7 c7)).setCell ⟨pb, 5, none⟩ (.slice a6 n6 c6)) ∧ UM B w ((w6.setCell ⟨pb, 4, none⟩ (.slice a7 n7 c7)).setCell ⟨pb, 5, none⟩ (.slice a6 n6 c6))) := hid (by
      have g1 := HM.out.b0
      have g2 := HBx.out.1.size
      have g4 := HB5.out.size
      have g5 := HB7.out.size
      have hu : Upd pb w6 ((w6.setCell ⟨pb, 4, none⟩ (.slice a7 n7 c7)).setCell ⟨pb, 5, none⟩ (.slice a6 n6 c6)) := ((Upd.refl pb w6).setCell rfl _).setCell rfl _
      have hR := HR.out
      simp only [Bool.not_true, Bool.not_false] at hR
      rw [hR]
      exact ⟨rfl, ⟨_, _, _, _, _, _, _, _, _, HM6.out.put12 (HO76.out.mono (by omega)) (HO6.out.mono (by omega)) (HO7.out.apart HO6.out (Nat.le_refl _))⟩, HM.out.um ((((Upd.refl pb w).ofBelow HBx.out.1).ofBelow HB6.out).trans hu)⟩)
    clear ho6 hb6 HWo HIf HO5 HO6 HO7 HO76 HM7 HM6 HB5 HB6 HB7 HMd HBd HMx HBx HR HS
    go_wp2_with fail
    refine ⟨HS6.out, ?_⟩
    go_wp2_with fail
    refine ⟨HS6.out, ?_⟩
    go_wp2_with fail
    refine ⟨HS6.out, ?_⟩
    go_wp2_with fail
    refine ⟨HS7.out, ?_⟩
    simp only [QN]
    go_wp2
    go_ret
    exact ⟨0, rfl, hid HG.out⟩
  | true =>
    as_aux_lemma =>
    go_upto_region 7 with fail
    generalize w.alloc (.cells #[.int .i64 t.slot, .int .u64 t.key, .int .i64 t.pins, .bool true] 64) = w9 at HB0 ⊢
    have m3 : w9.cell? ⟨p9, 3, none⟩ = some (.bool true) := HB0.out.1.cell 3
    have f3 : w9.frozen? ⟨p9, 3, none⟩ = false := HB0.out.1.frozen 3
    have HBx : Hid (Below w.heap.size w (w9.setCell ⟨p9, 3, none⟩ (.bool false)) ∧ Blk (w9.setCell ⟨p9, 3, none⟩ (.bool false)) p9 64 [.int .i64 t.slot, .int .u64 t.key, .int .i64 t.pins, .bool false]) := hid ⟨HB0.out.2.trans (((Upd.refl p9 w9).setCell rfl _).below (by omega) HB0.out.2.size), HB0.out.1.set 3 _⟩
    go_upto_region 8 with fail
    clear m3 f3 HB0 q0 q1 q2 q3 f2
    (try simp only [Bool.not_true, Bool.not_false])
    generalize w9.setCell ⟨p9, 3, none⟩ (.bool false) = wx at HBx ⊢
    have HMx := hid (HM.out.below HBx.out.1)
    have HIf : Hid (∀ wz a' n' c' l', OR wz B 64 4 entC (.slice a' n' c') l' → l'.length ≤ 131072 → Calls Tryd.prog 68 #[.agg #[.int .i64 t.slot, .int .u64 t.key, .int .i64 t.pins, .bool false], .slice a' n' c'] wz fun y w' => ∃ a' n' c', y = .returned (.slice a' n' c') ∧ OR w' wz.heap.size 64 4 entC (.slice a' n' c') ({ t with neg := false } :: l') ∧ Below wz.heap.size wz w') := hid (fun wz a' n' c' l' ho hl => inFront_walk (ho.rowE (by omega)) (by have := ho.lenS; omega) { t with neg := false })
    have HWo : Hid (∀ wz, Below wx.heap.size wx wz → ∀ a' n' c' l', OR wz B 64 4 entC (.slice a' n' c') l' → l'.length ≤ 131072 → Calls Tryd.prog 69 #[.slice a' n' c', .int .i64 x] wz fun y w' => ∃ a' n' c', y = .returned (.slice a' n' c') ∧ OR w' wz.heap.size 64 4 entC (.slice a' n' c') (woutI l' x) ∧ Below wz.heap.size wz w') := hid (fun wz hz a' n' c' l' ho hl => without_walk (ho.rowE (by omega)) (by have := ho.lenS; omega) x)
    refine wp_region_heavy (fun w4 => w4.cell? ⟨pb, 5, none⟩ = some (.slice a2 n2 c2) ∧ w4.cell? ⟨p9, 0, none⟩ = some (.int .i64 t.slot) ∧ w4.cell? ⟨p9, 1, none⟩ = some (.int .u64 t.key) ∧ w4.cell? ⟨p9, 2, none⟩ = some (.int .i64 t.pins) ∧ w4.cell? ⟨p9, 3, none⟩ = some (.bool false)) 19 [0, 1, 2, 3, 4, 5, 7, 10, 11, 12, 13, 14] [6, 8, 9, 15, 16, 17, 18] rfl (by kernel_rfl) (by kernel_rfl) (fun d _ _ _ _ h => by cases d <;> exact h) ⟨HMx.out.bk.cell 5, HBx.out.2.cell 0, HBx.out.2.cell 1, HBx.out.2.cell 2, HBx.out.2.cell 3⟩ ?_
    apply Exists.intro
    refine ⟨?_, ?_⟩
    · intro W hW
      have d5 : ∀ x, (W x).cell? ⟨pb, 5, none⟩ = some (.slice a2 n2 c2) := fun u => (hW u).1
      have e0 : ∀ u, (W u).cell? ⟨p9, 0, none⟩ = some (.int .i64 t.slot) := fun u => (hW u).2.1
      have e1 : ∀ u, (W u).cell? ⟨p9, 1, none⟩ = some (.int .u64 t.key) := fun u => (hW u).2.2.1
      have e2 : ∀ u, (W u).cell? ⟨p9, 2, none⟩ = some (.int .i64 t.pins) := fun u => (hW u).2.2.2.1
      have e3 : ∀ u, (W u).cell? ⟨p9, 3, none⟩ = some (.bool false) := fun u => (hW u).2.2.2.2
      clear hW
      simp only [List.take, opsAt, List.drop, List.cons_append, List.nil_append]
      repeat (go_big_quiet_step (fail))
      exact rfl
    simp only [List.take, List.drop, opsAt, List.cons_append, List.nil_append, wpHv]
    have HBd : Hid (Below wx.heap.size wx wx.drew) := hid (Drew.below ⟨1, rfl⟩ _)
    generalize wx.drew = wd at HBd ⊢
    have HMd := hid (HMx.out.below HBd.out)
    have HS : Hid (∀ wz, Below wx.heap.size wx wz → wz.cell? ⟨pb, 5, none⟩ = some (.slice a2 n2 c2) ∧ wz.cell? ⟨p9, 0, none⟩ = some (.int .i64 t.slot) ∧ wz.cell? ⟨p9, 1, none⟩ = some (.int .u64 t.key) ∧ wz.cell? ⟨p9, 2, none⟩ = some (.int .i64 t.pins) ∧ wz.cell? ⟨p9, 3, none⟩ = some (.bool false)) := hid (fun wz hz => by
      have k1 := HMx.out.bk.below hz
      have k2 := HBx.out.2.below hz
      exact ⟨k1.cell 5, k2.cell 0, k2.cell 1, k2.cell 2, k2.cell 3⟩)
    have z4 : wd.cell? ⟨pb, 4, none⟩ = some (.slice a1 n1 c1) := HMd.out.bk.cell 4
    go_wp2_with fail
    refine ⟨HS.out _ HBd.out, ?_⟩
    go_wp2_with fail
    refine (HWo.out wd HBd.out a1 n1 c1 m.I HMd.out.o1 HK.out.l1).mono ?_
    rintro y w5 ⟨a5, n5, c5, rfl, ho5, hb5⟩
    have HO5 := hid ho5
    have HB5 : Hid (Below wx.heap.size wx w5) := hid (HBd.out.trans (hb5.mono HBd.out.size))
    clear ho5 hb5 z4
    go_wp2_with fail
    refine ⟨HS.out _ HB5.out, ?_⟩
    go_wp2_with fail
    refine (HIf.out w5 a5 n5 c5 (woutI m.I x) (HO5.out.mono (by have := HM.out.b0; have := HBx.out.1.size; have := HBd.out.size; omega)) (Nat.le_trans (wout_len _ _) HK.out.l1)).mono ?_
    rintro y w7 ⟨a7, n7, c7, rfl, ho7, hb7⟩
    have HO7 := hid ho7
    have HB7 : Hid (Below wx.heap.size wx w7) := hid (HB5.out.trans (hb7.mono HB5.out.size))
    have HM7 := hid (HMx.out.below HB7.out)
    clear ho7 hb7
    go_wp2_with fail
    refine ⟨HS.out _ HB7.out, ?_⟩
    go_wp2_with fail
    refine (HWo.out w7 HB7.out a2 n2 c2 m.M HM7.out.o2 HK.out.l2).mono ?_
    rintro y w6 ⟨a6, n6, c6, rfl, ho6, hb6⟩
    have HO6 := hid ho6
    have HB6 : Hid (Below wx.heap.size wx w6) := hid (HB7.out.trans (hb6.mono HB7.out.size))
    have HM6 := hid (HMx.out.below HB6.out)
    have HO76 := hid (HO7.out.below hb6)
    have z4 : w6.cell? ⟨pb, 4, none⟩ = some (.slice a1 n1 c1) := HM6.out.bk.cell 4
    have f4 : w6.frozen? ⟨pb, 4, none⟩ = false := HM6.out.bk.frozen 4
    have s3 : (w6.setCell ⟨pb, 4, none⟩ (.slice a7 n7 c7)).cell? ⟨pb, 5, none⟩ = some (.slice a2 n2 c2) := (HM6.out.bk.set 4 (.slice a7 n7 c7)).cell 5
    have f5 : (w6.setCell ⟨pb, 4, none⟩ (.slice a7 n7 c7)).frozen? ⟨pb, 5, none⟩ = false := (HM6.out.bk.set 4 (.slice a7 n7 c7)).frozen 5
    have HS6 := hid (HS.out w6 HB6.out)
    have HS7 : Hid ((w6.setCell ⟨pb, 4, none⟩ (.slice a7 n7 c7)).cell? ⟨pb, 5, none⟩ = some (.slice a2 n2 c2) ∧ (w6.setCell ⟨pb, 4, none⟩ (.slice a7 n7 c7)).cell? ⟨p9, 0, none⟩ = some (.int .i64 t.slot) ∧ (w6.setCell ⟨pb, 4, none⟩ (.slice a7 n7 c7)).cell? ⟨p9, 1, none⟩ = some (.int .u64 t.key) ∧ (w6.setCell ⟨pb, 4, none⟩ (.slice a7 n7 c7)).cell? ⟨p9, 2, none⟩ = some (.int .i64 t.pins) ∧ (w6.setCell ⟨pb, 4, none⟩ (.slice a7 n7 c7)).cell? ⟨p9, 3, none⟩ = some (.bool false)) := hid (by
      have k2 := HBx.out.2.below HB6.out
      have k3 := k2.upd ((Upd.refl pb w6).setCell (p := ⟨pb, 4, none⟩) rfl (.slice a7 n7 c7)) (k2.tne HM6.out.bk (by decide))
      exact ⟨s3, k3.cell 0, k3.cell 1, k3.cell 2, k3.cell 3⟩)
    have HG : Hid ((sngM m x false).1 = 0 ∧ MX B pb (sngM m x false).2 ((w6.setCell ⟨pb, 4, none⟩ (.slice a7 n7 c7)).setCell ⟨pb, 5, none⟩ (.slice a6 n6 c6)) ∧ UM B w ((w6.setCell ⟨pb, 4, none⟩ (.slice a7 n7 c7)).setCell ⟨pb, 5, none⟩ (.slice a6 n6 c6))) := hid (by
      have g1 := HM.out.b0
      have g2 := HBx.out.1.size
      have g4 := HB5.out.size
      have g5 := HB7.out.size
      have hu : Upd pb w6 ((w6.setCell ⟨pb, 4, none⟩ (.slice a7 n7 c7)).setCell ⟨pb, 5, none⟩ (.slice a6 n6 c6)) := ((Upd.refl pb w6).setCell rfl _).setCell rfl _
      have hR := HR.out
      simp only [Bool.not_true, Bool.not_false] at hR
      rw [hR]
      exact ⟨rfl, ⟨_, _, _, _, _, _, _, _, _, HM6.out.put12 (HO76.out.mono (by omega)) (HO6.out.mono (by omega)) (HO7.out.apart HO6.out (Nat.le_refl _))⟩, HM.out.um ((((Upd.refl pb w).ofBelow HBx.out.1).ofBelow HB6.out).trans hu)⟩)
    clear ho6 hb6 HWo HIf HO5 HO6 HO7 HO76 HM7 HM6 HB5 HB6 HB7 HMd HBd HMx HBx HR HS
    go_wp2_with fail
    refine ⟨HS6.out, ?_⟩
    go_wp2_with fail
    refine ⟨HS6.out, ?_⟩
    go_wp2_with fail
    refine ⟨HS6.out, ?_⟩
    go_wp2_with fail
    refine ⟨HS7.out, ?_⟩
    simp only [QN]
    go_wp2
    go_ret
    exact ⟨0, rfl, hid HG.out⟩
set_option maxRecDepth 100000 in
set_option maxHeartbeats 2000000 in
theorem minsert_walk (h : MM B pb a1 n1 c1 a2 n2 c2 a3 n3 c3 m w) (hk : MOk m) (x : Int) (k : Nat) (b : Bool) : Calls Tryd.prog 49 #[.pointer (some ⟨pb, 0, none⟩), .int .i64 x, .int .u64 (k : Int), .bool b] w fun y w' => OpP B pb (insM m x k b) w y w' := by
  have HM := hid h
  have HK := hid hk
  have HEn := hid (mentry_walk h hk x)
  clear h hk
  go_enter Tryd.func49, Tryd.ntmps49
  go_wp2_with fail
  refine HEn.out.mono ?_
  rintro y w1 ⟨hP, hw1⟩
  have hw1' := hw1.symm
  clear hw1
  subst hw1'
  clear HEn
  rcases hP with ⟨h0, kk, hkk, rfl⟩ | ⟨h0, g, i, t, rfl, HP⟩
  rotate_left
  · as_aux_lemma =>
    have HF : Hid ((insM m x k b).1 = 2 ∧ MX B pb (insM m x k b).2 w) := hid (by
      unfold insM
      rw [if_neg (by rw [h0]; omega), if_pos (.inl h0)]
      exact ⟨rfl, ⟨_, _, _, _, _, _, _, _, _, HM.out⟩⟩)
    clear h0 HP
    go_wp2
    go_ret
    exact ⟨2, rfl, hid ⟨HF.out.1, HF.out.2, UM.refl _ _⟩⟩
  by_cases h4 : kk = 4
  · as_aux_lemma =>
    have HF : Hid ((insM m x k b).1 = 4 ∧ MX B pb (insM m x k b).2 w) := hid (by
      unfold insM
      rw [if_pos (hkk.trans h4)]
      exact ⟨rfl, ⟨_, _, _, _, _, _, _, _, _, HM.out⟩⟩)
    clear h0 hkk
    subst h4
    go_wp2
    go_ret
    exact ⟨4, rfl, hid ⟨HF.out.1, HF.out.2, UM.refl _ _⟩⟩
  have h1 : kk = 1 := by rcases err_cases m x with q | q | q <;> omega
  subst h1
  have HE := hid hkk
  clear h0 hkk h4
  have HLk := hid (liveKey_walk HM.out HK.out k x)
  obtain ⟨lk, hlk⟩ : ∃ b, lkM m k x = b := ⟨_, rfl⟩
  rw [hlk] at HLk
  have Hlk := hid hlk
  clear hlk
  go_wp2_with fail
  refine HLk.out.mono ?_
  rintro y w1 ⟨rfl, hb1⟩
  have HB1 := hid hb1
  have HM1 := hid (HM.out.below hb1)
  clear hb1 HLk
  cases lk with
  | true =>
    as_aux_lemma =>
    have HF : Hid ((insM m x k b).1 = 2 ∧ MX B pb (insM m x k b).2 w1 ∧ UM B w w1) := hid (by
      unfold insM
      rw [if_neg (by rw [HE.out]; omega), if_pos (.inr Hlk.out)]
      exact ⟨rfl, ⟨_, _, _, _, _, _, _, _, _, HM1.out⟩, UM.ofBelow HB1.out⟩)
    clear HE Hlk HM1 HB1
    go_wp2
    go_ret
    exact ⟨2, rfl, hid HF.out⟩
  | false =>
  as_aux_lemma =>
  have HFg := hid (mforget_walk HM1.out (by have := HK.out.l3; omega) k)
  obtain ⟨bO, hbO⟩ : ∃ b, decide (k ∈ m.O) = b := ⟨_, rfl⟩
  rw [hbO] at HFg
  have HbO := hid hbO
  clear hbO
  go_wp2_with fail
  refine HFg.out.mono ?_
  rintro y w2 ⟨rfl, ⟨a7, n7, c7, hm2⟩, hu2⟩
  have HM2 := hid hm2
  have HU2 := hid hu2
  clear hm2 hu2 HFg
  have HAd := hid (fun hot => add_walk HM2.out HK.out.l1 HK.out.l2 x k b hot)
  have HR : Hid (∀ w3, MX B pb (addM { m with O := noK m.O k } x k b (bO && !b)) w3 → (insM m x k b).1 = 0 ∧ MX B pb (insM m x k b).2 w3) := hid (fun w3 h3 => by
    unfold insM
    rw [if_neg (by rw [HE.out]; omega), if_neg (by rw [HE.out, Hlk.out]; simp)]
    refine ⟨rfl, ?_⟩
    by_cases hc : k ∈ m.O ∧ b = false
    · have : (bO && !b) = true := by rw [← HbO.out, decide_eq_true hc.1, hc.2]; rfl
      rw [this] at h3
      rw [if_pos hc]
      exact h3
    · have : (bO && !b) = false := by
        rw [← HbO.out]
        by_cases hk : k ∈ m.O
        · have : b ≠ false := fun e => hc ⟨hk, e⟩
          cases b
          · exact absurd rfl this
          · simp
        · rw [decide_eq_false hk]; rfl
      rw [this] at h3
      rw [if_neg hc]
      exact h3)
  clear HE Hlk HbO
  cases bO with
  | false =>
    as_aux_lemma =>
    go_wp2_with fail
    refine (HAd.out false).mono ?_
    rintro y w3 ⟨rfl, hm3, hu3⟩
    have HF : Hid ((insM m x k b).1 = 0 ∧ MX B pb (insM m x k b).2 w3 ∧ UM B w w3) := hid (by
      obtain ⟨r1, r2⟩ := HR.out w3 hm3
      exact ⟨r1, r2, (UM.ofBelow HB1.out).trans ((HM1.out.um HU2.out).trans (HM2.out.um hu3))⟩)
    clear hm3 hu3 HR HAd HM2 HU2 HM1 HB1
    go_wp2
    go_ret
    exact ⟨0, rfl, hid HF.out⟩
  | true =>
    as_aux_lemma =>
    have HR2 : Hid (∀ w3, MX B pb (addM { m with O := noK m.O k } x k b (!b)) w3 → (insM m x k b).1 = 0 ∧ MX B pb (insM m x k b).2 w3) := hid (fun w3 h3 => HR.out w3 (by simpa using h3))
    clear HR
    go_wp2_with fail
    refine (HAd.out (!b)).mono ?_
    rintro y w3 ⟨rfl, hm3, hu3⟩
    have HF : Hid ((insM m x k b).1 = 0 ∧ MX B pb (insM m x k b).2 w3 ∧ UM B w w3) := hid (by
      obtain ⟨r1, r2⟩ := HR2.out w3 hm3
      exact ⟨r1, r2, (UM.ofBelow HB1.out).trans ((HM1.out.um HU2.out).trans (HM2.out.um hu3))⟩)
    clear hm3 hu3 HR2 HAd HM2 HU2 HM1 HB1
    go_wp2
    go_ret
    exact ⟨0, rfl, hid HF.out⟩
set_option maxRecDepth 100000 in
set_option maxHeartbeats 2000000 in
theorem mreplace_walk (h : MM B pb a1 n1 c1 a2 n2 c2 a3 n3 c3 m w) (hk : MOk m) (x : Int) (k : Nat) (b : Bool) : Calls Tryd.prog 57 #[.pointer (some ⟨pb, 0, none⟩), .int .i64 x, .int .u64 (k : Int), .bool b] w fun y w' => OpP B pb (repM m x k b) w y w' := by
  have HM := hid h
  have HK := hid hk
  have HEn := hid (mentry_walk h hk x)
  clear h hk
  go_enter Tryd.func57, Tryd.ntmps57
  go_wp2_with fail
  refine HEn.out.mono ?_
  rintro y w1 ⟨hP, hw1⟩
  have hw1' := hw1.symm
  clear hw1
  subst hw1'
  clear HEn
  rcases hP with ⟨h0, kk, hkk, rfl⟩ | ⟨h0, g, i, t, rfl, HP⟩
  · as_aux_lemma =>
    have HF : Hid ((repM m x k b).1 = kk ∧ MX B pb ((repM m x k b).2) w) := hid (by
      unfold repM
      rw [idle_err h0, if_neg h0, hkk]
      exact ⟨rfl, ⟨_, _, _, _, _, _, _, _, _, HM.out⟩⟩)
    have dk : ((kk : Int) != 0) = true := by rw [key_bneI]; exact decide_eq_true (by omega)
    clear h0 hkk
    go_wp2
    go_ret
    exact ⟨kk, rfl, hid ⟨HF.out.1, HF.out.2, UM.refl _ _⟩⟩
  obtain ⟨q0, q1, q2, q3, f2⟩ := HM.out.at HK.out HP.out.1
  have HE := hid h0
  clear h0
  by_cases hpin : 0 < t.pins
  · as_aux_lemma =>
    have d1 : decide (t.pins > 0) = true := decide_eq_true hpin
    have d2 : decide (0 < t.pins) = true := decide_eq_true hpin
    have HF : Hid ((repM m x k b).1 = 3 ∧ MX B pb (repM m x k b).2 w) := hid (by
      have e : idleM m x = 3 := by rw [idle_of HE.out HP.out.2.1, if_pos hpin]
      unfold repM
      rw [e, if_neg (by omega)]
      exact ⟨rfl, ⟨_, _, _, _, _, _, _, _, _, HM.out⟩⟩)
    clear HE HP
    go_wp2
    go_ret
    exact ⟨3, rfl, hid ⟨HF.out.1, HF.out.2, UM.refl _ _⟩⟩
  have d1 : decide (t.pins > 0) = false := decide_eq_false hpin
  have d2 : decide (0 < t.pins) = false := decide_eq_false hpin
  have HId : Hid (idleM m x = 0) := hid (by rw [idle_of HE.out HP.out.2.1, if_neg hpin])
  clear q0 q1 q3 f2 HP
  have HLk := hid (liveKey_walk HM.out HK.out k x)
  obtain ⟨lk, hlk⟩ : ∃ b, lkM m k x = b := ⟨_, rfl⟩
  rw [hlk] at HLk
  have Hlk := hid hlk
  clear hlk
  go_wp2_with fail
  refine HLk.out.mono ?_
  rintro y w1 ⟨rfl, hb1⟩
  have HB1 := hid hb1
  have HM1 := hid (HM.out.below hb1)
  clear hb1 HLk q2 hpin d1 d2
  cases lk with
  | true =>
    as_aux_lemma =>
    have HF : Hid ((repM m x k b).1 = 2 ∧ MX B pb (repM m x k b).2 w1 ∧ UM B w w1) := hid (by
      unfold repM
      rw [if_pos HId.out, if_pos Hlk.out]
      exact ⟨rfl, ⟨_, _, _, _, _, _, _, _, _, HM1.out⟩, UM.ofBelow HB1.out⟩)
    clear HE Hlk HM1 HB1
    go_wp2
    go_ret
    exact ⟨2, rfl, hid HF.out⟩
  | false =>
  as_aux_lemma =>
  have HRm := hid (remembers_walk HM1.out (by have := HK.out.l3; omega) k)
  obtain ⟨bO, hbO⟩ : ∃ b, decide (k ∈ m.O) = b := ⟨_, rfl⟩
  rw [hbO] at HRm
  have HbO := hid hbO
  clear hbO
  go_wp2_with fail
  refine HRm.out.mono ?_
  rintro y w2 ⟨rfl, hw2⟩
  have hw2' := hw2.symm
  clear hw2
  subst hw2'
  clear HRm
  have HPg := hid (pageOut_walk HM1.out HK.out x HE.out)
  obtain ⟨hot, hhot⟩ : ∃ h, (bO && !b) = h := ⟨_, rfl⟩
  have HR : Hid (∀ w3, MX B pb (addM { pgM m x with O := noK (goneM m x) k } x k b hot) w3 → (repM m x k b).1 = 0 ∧ MX B pb (repM m x k b).2 w3) := hid (fun w3 h3 => by
    unfold repM
    rw [if_pos HId.out, if_neg (by rw [Hlk.out]; simp)]
    refine ⟨rfl, ?_⟩
    rw [← hhot] at h3
    by_cases hc : k ∈ m.O ∧ b = false
    · have : (bO && !b) = true := by rw [← HbO.out, decide_eq_true hc.1, hc.2]; rfl
      rw [this] at h3
      rw [if_pos hc]
      exact h3
    · have : (bO && !b) = false := by
        rw [← HbO.out]
        by_cases hk : k ∈ m.O
        · have : b ≠ false := fun e => hc ⟨hk, e⟩
          cases b
          · exact absurd rfl this
          · simp
        · rw [decide_eq_false hk]; rfl
      rw [this] at h3
      rw [if_neg hc]
      exact h3)
  clear HE Hlk HbO HId
  have fin : True := trivial
  cases bO with
  | false =>
    have hhot2 : false = hot := hhot
    subst hhot2
    clear hhot
    as_aux_lemma =>
    go_wp2_with fail
    refine HPg.out.mono ?_
    rintro y w3 ⟨rfl, ⟨b1, e1, g1, b2, e2, g2, b3, e3, g3, hm3⟩, hu3⟩
    have HM3 := hid hm3
    have HU3 := hid hu3
    clear hm3 hu3 HPg
    have HFg := hid (mforget_walk HM3.out (by show (goneM m x).length ≤ _; have := gone_len m x; have := HK.out.l3; omega) k)
    go_wp2_with fail
    refine HFg.out.mono ?_
    rintro y w4 ⟨rfl, ⟨a7, n7, c7, hm4⟩, hu4⟩
    have HM4 := hid hm4
    have HU4 := hid hu4
    clear hm4 hu4 HFg
    have HAd := hid (fun hot => add_walk HM4.out (Nat.le_trans (wout_len m.I x) HK.out.l1) (Nat.le_trans (wout_len m.M x) HK.out.l2) x k b hot)
    go_wp2_with fail
    refine (HAd.out _).mono ?_
    rintro y w5 ⟨rfl, hm5, hu5⟩
    have HF : Hid ((repM m x k b).1 = 0 ∧ MX B pb (repM m x k b).2 w5 ∧ UM B w w5) := hid (by
      obtain ⟨r1, r2⟩ := HR.out w5 hm5
      exact ⟨r1, r2, (UM.ofBelow HB1.out).trans ((HM1.out.um HU3.out).trans ((HM3.out.um HU4.out).trans (HM4.out.um hu5)))⟩)
    clear hm5 hu5 HR HAd HM3 HU3 HM4 HU4 HM1 HB1
    go_wp2
    go_ret
    exact ⟨0, rfl, hid HF.out⟩
  | true =>
    have hhot2 : (!b) = hot := by simpa using hhot
    subst hhot2
    clear hhot
    as_aux_lemma =>
    go_wp2_with fail
    refine HPg.out.mono ?_
    rintro y w3 ⟨rfl, ⟨b1, e1, g1, b2, e2, g2, b3, e3, g3, hm3⟩, hu3⟩
    have HM3 := hid hm3
    have HU3 := hid hu3
    clear hm3 hu3 HPg
    have HFg := hid (mforget_walk HM3.out (by show (goneM m x).length ≤ _; have := gone_len m x; have := HK.out.l3; omega) k)
    go_wp2_with fail
    refine HFg.out.mono ?_
    rintro y w4 ⟨rfl, ⟨a7, n7, c7, hm4⟩, hu4⟩
    have HM4 := hid hm4
    have HU4 := hid hu4
    clear hm4 hu4 HFg
    have HAd := hid (fun hot => add_walk HM4.out (Nat.le_trans (wout_len m.I x) HK.out.l1) (Nat.le_trans (wout_len m.M x) HK.out.l2) x k b hot)
    go_wp2_with fail
    refine (HAd.out _).mono ?_
    rintro y w5 ⟨rfl, hm5, hu5⟩
    have HF : Hid ((repM m x k b).1 = 0 ∧ MX B pb (repM m x k b).2 w5 ∧ UM B w w5) := hid (by
      obtain ⟨r1, r2⟩ := HR.out w5 hm5
      exact ⟨r1, r2, (UM.ofBelow HB1.out).trans ((HM1.out.um HU3.out).trans ((HM3.out.um HU4.out).trans (HM4.out.um hu5)))⟩)
    clear hm5 hu5 HR HAd HM3 HU3 HM4 HU4 HM1 HB1
    go_wp2
    go_ret
    exact ⟨0, rfl, hid HF.out⟩
end
end Go.Proofs.Qxb6500892aDoor
