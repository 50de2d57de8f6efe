/- The entries of written tables; the writing steps answer and do as the model's. No Go in sight. -/
import Derived.Test.Qxb6500887aGreatAwH
import Derived.Test.Qxb6500887aGreatAzZa
namespace Go.Proofs.Qxb6500887aGreat
open Go.RowKit
set_option linter.unusedSimpArgs false
set_option linter.unusedVariables false
section
variable {wd per : Nat} {X : Nat → Nat}
theorem eN_set (hw : Wd wd per) {i v : Nat} (hv : v ≤ 2 ^ wd - 1) (j : Nat) : eN wd per (setX wd per X i v) j = if j = i then v else eN wd per X j := by
  have hm := hw.mul
  have hi : i % per < per := Nat.mod_lt _ (by omega)
  have hj : j % per < per := Nat.mod_lt _ (by omega)
  have b1 : i % per * wd + wd ≤ 64 := by
    have : (i % per + 1) * wd ≤ per * wd := Nat.mul_le_mul_right _ hi
    rw [Nat.succ_mul] at this; omega
  have b2 : j % per * wd + wd ≤ 64 := by
    have : (j % per + 1) * wd ≤ per * wd := Nat.mul_le_mul_right _ hj
    rw [Nat.succ_mul] at this; omega
  unfold eN setX
  by_cases e : j = i
  · rw [if_pos e, e, fup_self]
    unfold enW
    exact ent_same b1 hv
  · rw [if_neg e]
    by_cases eq : j / per = i / per
    · rw [eq, fup_self]
      have hne : j % per ≠ i % per := fun h => e (by rw [← Nat.div_add_mod j per, ← Nat.div_add_mod i per, eq, h])
      unfold enW
      refine ent_other b1 b2 hv ?_
      rcases Nat.lt_or_gt_of_ne hne with h | h
      · left
        have : (j % per + 1) * wd ≤ i % per * wd := Nat.mul_le_mul_right _ h
        rw [Nat.succ_mul] at this; omega
      · right
        have : (i % per + 1) * wd ≤ j % per * wd := Nat.mul_le_mul_right _ h
        rw [Nat.succ_mul] at this; omega
    · rw [fup_ne _ _ eq]
theorem enW_fill (hw : Wd wd per) {lo hi v q j : Nat} (hlt : lo < hi) (h1 : lo / per ≤ q) (h2 : q ≤ (hi - 1) / per) (hj : j < per) (hv : v ≤ 2 ^ wd - 1) (x : Nat) (hx : x < 18446744073709551616) : enW wd (fillW (mskW wd per lo hi q) (v * onW wd) x) j = if inR lo hi (per * q + j) = true then v else enW wd x j := by
  have hp := enW_pat hw hv hj
  apply Nat.eq_of_testBit_eq
  intro i
  have hpi := congrArg (fun z => z.testBit i) hp
  simp only [testBit_enW] at hpi
  rw [testBit_enW]
  by_cases hiw : i < wd
  · have hb : j * wd + i < 64 ∧ (j * wd + i) / wd = j := by rcases hw with ⟨rfl, rfl⟩ | ⟨rfl, rfl⟩ | ⟨rfl, rfl⟩ <;> omega
    have hM : mskW wd per lo hi q < 18446744073709551616 := mAt_lt (mk_lt (by omega))
    unfold fillW
    rw [Nat.testBit_or, Nat.testBit_and, Nat.testBit_and, testBit_not _ _ hM, testBit_mskW hw hlt h1 h2 hb.1, hb.2]
    rw [decide_eq_true hiw, Bool.and_true] at hpi ⊢
    show ((x.testBit (j * wd + i) && (decide (j * wd + i < 64) && !(inR lo hi (per * q + j)))) || ((v * onW wd).testBit (j * wd + i) && inR lo hi (per * q + j))) = _
    rw [decide_eq_true hb.1]
    cases hr : inR lo hi (per * q + j)
    · simp only [Bool.not_false, Bool.and_true, Bool.and_false, Bool.or_false, Bool.false_eq_true, if_false]
      rw [testBit_enW, decide_eq_true hiw, Bool.and_true]
    · simp only [Bool.not_true, Bool.and_false, Bool.false_or, Bool.and_true, if_true]
      exact hpi
  · rw [decide_eq_false hiw, Bool.and_false]
    rw [decide_eq_false hiw, Bool.and_false] at hpi
    split
    · exact hpi
    · rw [testBit_enW, decide_eq_false hiw, Bool.and_false]
theorem eN_fill (hw : Wd wd per) {lo hi v : Nat} (hlt : lo < hi) (hv : v ≤ 2 ^ wd - 1) (hX : ∀ q, X q < 18446744073709551616) (i : Nat) : eN wd per (fillX wd per lo hi v X) i = if lo ≤ i ∧ i < hi then v else eN wd per X i := by
  have hm := hw.mul
  have hi' : i % per < per := Nat.mod_lt _ (by omega)
  have hd := Nat.div_add_mod i per
  unfold eN fillX
  by_cases h : lo / per ≤ i / per ∧ i / per ≤ (hi - 1) / per
  · rw [if_pos h, enW_fill hw hlt h.1 h.2 hi' hv _ (hX _), hd]
    by_cases hr : lo ≤ i ∧ i < hi
    · rw [if_pos hr, if_pos (inR_iff.2 hr)]
    · rw [if_neg hr, if_neg (fun hh => hr (inR_iff.1 hh))]
  · rw [if_neg h, if_neg]
    intro hr
    exact h ⟨Nat.div_le_div_right hr.1, Nat.div_le_div_right (by omega)⟩
theorem eN_wOf {f : Nat → Nat} (hf : ∀ i, f i < 16) (i : Nat) : eN 4 16 (wOf f) i = f i := by
  have hex : ∃ x, x < 18446744073709551616 ∧ ∀ j, j < 16 → nib x j = f (16 * (i / 16) + j) := by
    obtain ⟨h1, h2⟩ := of_dig (fun j => f (16 * (i / 16) + j)) (fun j => hf _) rfl
    exact ⟨_, h1, h2⟩
  obtain ⟨x, hx, hn⟩ := hex
  unfold eN
  rw [wOf_eq hx hn, ← nib_enW, hn _ (Nat.mod_lt _ (by omega)), Nat.div_add_mod]
end
/-- Two states that agree where there are entries. -/
structure Agr (E E' : ES) : Prop where
  W : ∀ i, i < 32768 → E.W i = E'.W i
  C : ∀ i, i < 16384 → E.C i = E'.C i
  K : ∀ i, i < 16384 → E.K i = E'.K i
  G : ∀ i, i < 32768 → E.G i = E'.G i
  T : ∀ i, i < 2048 → E.T i = E'.T i
  v : E.v = E'.v
theorem Agr.refl (E : ES) : Agr E E := ⟨fun _ _ => rfl, fun _ _ => rfl, fun _ _ => rfl, fun _ _ => rfl, fun _ _ => rfl, rfl⟩
theorem MM.agr {l : ML} {E E' : ES} {w : World} (h : MM l E w) (ha : Agr E E') (hw : ∀ i, E'.W i < 18446744073709551616) (hc : ∀ i, E'.C i ≤ 3) (ht : ∀ i, E'.T i ≤ 15) : MM l E' w := by
  refine ⟨ha.v ▸ h.m, ?_, ?_, ?_, ?_, ?_, h.wc, h.kg, hw, hc, ht, ha.v ▸ h.vl⟩
  · have := h.ws; unfold wdC at this ⊢; rw [fnC_congr (fun i hi => by rw [ha.W i hi])] at this; exact this
  · have := h.c; unfold wdC at this ⊢; rw [fnC_congr (fun i hi => by rw [ha.C i hi])] at this; exact this
  · have := h.k; unfold bwC at this ⊢; rw [fnC_congr (fun i hi => by rw [ha.K i hi])] at this; exact this
  · have := h.g; unfold bwC at this ⊢; rw [fnC_congr (fun i hi => by rw [ha.G i hi])] at this; exact this
  · have := h.t; unfold inC at this ⊢; rw [fnC_congr (fun i hi => by rw [ha.T i hi])] at this; exact this
/-- What of an arena's tables is wanted. -/
structure SOk (S : AS) : Prop where
  W : ∀ i, S.W i < 18446744073709551616
  C : ∀ q, S.C q < 18446744073709551616
  M : ∀ q, S.M q < 18446744073709551616
  L : ∀ q, S.L q < 18446744073709551616
  T : ∀ q, S.T q < 18446744073709551616
theorem AM.sok {l : AL} {S : AS} {w : World} (h : AM l S w) : SOk S := ⟨h.wl, h.tc.lt, h.tm.lt, h.tl.lt, h.tt.lt⟩
theorem abE_C (S : AS) (i : Nat) : (abE S).C i ≤ 3 := by have := eN_lt 2 32 S.C i; show eN 2 32 S.C i ≤ 3; omega
theorem abE_T (S : AS) (i : Nat) : (abE S).T i ≤ 15 := by have := eN_lt 4 16 S.T i; show eN 4 16 S.T i ≤ 15; omega
theorem wd1 : Wd 1 64 := .inl ⟨rfl, rfl⟩
theorem wd2 : Wd 2 32 := .inr (.inl ⟨rfl, rfl⟩)
theorem wd4 : Wd 4 16 := .inr (.inr ⟨rfl, rfl⟩)
theorem onE_ab (S : AS) (a : Int) : onE (abE S).W a = onC S a := rfl
theorem nzP_set {X : Nat → Nat} {i j : Nat} {on : Bool} : nzP 1 64 (setX 1 64 X i (bitN on)) j = fup (nzP 1 64 X) i on j := by
  unfold nzP
  rw [eN_set wd1 (by cases on <;> decide)]
  by_cases e : j = i
  · rw [if_pos e, e, fup_self]; cases on <;> rfl
  · rw [if_neg e, fup_ne _ _ e]
theorem nzP_fill {X : Nat → Nat} {lo hi i : Nat} {on : Bool} (hlt : lo < hi) (hX : ∀ q, X q < 18446744073709551616) : nzP 1 64 (fillX 1 64 lo hi (bitN on) X) i = flB (nzP 1 64 X) lo hi on i := by
  unfold nzP flB
  rw [eN_fill wd1 hlt (by cases on <;> decide) hX]
  split
  · cases on <;> rfl
  · rfl
theorem wantW_in {a : Int} (h : wantW a = 0) : InH a := by
  unfold wantW at h
  by_cases hi : InH a
  · exact hi
  · rw [if_neg hi] at h; exact absurd h (by decide)
theorem wantW_iff {a : Int} : wantW a = 0 ↔ InH a := ⟨wantW_in, fun h => by unfold wantW; rw [if_pos h]⟩
theorem wantW_no {a : Int} (h : ¬ InH a) : wantW a = 1 := by unfold wantW; rw [if_neg h]
end Go.Proofs.Qxb6500887aGreat
