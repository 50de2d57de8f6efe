/- The model's steps: freeBlockRun. -/
import Derived.Test.Qxb6500887aGreatAyT
import Derived.Deep.DeepCutAuto
namespace Go.Proofs.Qxb6500887aGreat
open Go.RowKit
set_option linter.unusedSimpArgs false
set_option linter.unusedVariables false
section
variable {l : ML} {E E' : ES} {w w' w0 w3 w4 : World} {p : Nat}
/-- Lines of a block that are not free. -/
def usedE (T : Nat → Nat) : Nat → Nat := fun k => 32 - flE T k 32
theorem flE_le (T : Nat → Nat) (b n : Nat) : flE T b n ≤ n := cnt_bound _ _
noncomputable def fbF (T : Nat → Nat) (nd : Nat) : Nat → Option Nat
  | 0 => none
  | j + 1 => if izE (usedE T) (64 - nd - j) nd = true then some (64 - nd - j) else fbF T nd j
noncomputable def fbR (T : Nat → Nat) (f nd : Int) : List Value := if f < 0 ∨ 64 ≤ f then rsC 1 0 0 else if nd < 1 ∨ 64 < nd then rsC 4 0 0 else match fbF T nd.toNat (65 - nd.toNat - f.toNat) with
  | none => rsC 0 0 0
  | some b => rsC 0 (b : Int) 1
set_option maxRecDepth 100000 in
set_option maxHeartbeats 4000000 in
theorem freeRunM (h : MM l E w) (f nd : Int) : Calls Tryz.prog 120 #[.pointer (some ⟨l.m, 0, none⟩), .int .i64 f, .int .i64 nd] w fun e w' => e = .returned (.agg (fbR E.T f nd).toArray) ∧ Hid (MD w l E w') := by
  have I0 := hid info_rs
  have HR := hid (fun (c : Int) (wz : World) => refM c wz)
  have HA := hid (fun wz => ansM 0 0 wz)
  have HB := hid (fun wz => bbM f wz)
  obtain ⟨p, hp⟩ : ∃ p, w.heap.size = p := ⟨_, rfl⟩
  have HX := hid (MX.start h hp)
  dsimp only [rsC, rsT] at HX
  clear h
  obtain ⟨R, hR⟩ : ∃ R, fbR E.T f nd = R := ⟨_, rfl⟩
  rw [hR]
  unfold fbR at hR
  by_cases hc : f < 0 ∨ 64 ≤ f
  · as_aux_lemma =>
    rw [if_pos hc] at hR
    rw [← hR]
    rw [decide_eq_true hc] at HB
    clear hc hR
    go_enter Tryz.func120, Tryz.ntmps120
    go_upto_region 1 with fail
    (try simp only [hp])
    generalize hw2 : w.alloc _ = w2 at HX ⊢
    clear hw2 hp
    (go_wp2_with fail; refine (HB.out _).mono ?_; rintro e_ w_ ⟨he_, hw_⟩; subst he_; have hs_ := hw_.symm; clear hw_; subst hs_)
    go_wp2_with fail
    refine (HR.out 1 _).mono ?_
    rintro e w3 ⟨rfl, hb3⟩
    have HX3 := hid (HX.out.below hb3)
    clear hb3 HX
    go_wp2_with (refine wpList_store_blk rfl 46 _ _ rfl p rfl (rsC 1 0 0) rfl HX3.out.b rfl I0.out (rsC_one _ _ _) ?_; intro w9 HB9 HU9)
    refine bodyPost_ret (results_blk (cs := (rsC 1 0 0)) Tryz.results120 rfl agg_rs HB9.out) rfl ?_
    exact ⟨rfl, hid (HX3.out.done HU9.out)⟩
  rw [decide_eq_false hc] at HB
  rw [if_neg hc] at hR
  by_cases h3 : nd < 1
  · as_aux_lemma =>
    rw [if_pos (.inl h3)] at hR
    rw [← hR]
    clear hR
    have d3 : decide (nd < 1) = true := decide_eq_true h3
    go_enter Tryz.func120, Tryz.ntmps120
    go_upto_region 1 with fail
    (try simp only [hp])
    generalize hw2 : w.alloc _ = w2 at HX ⊢
    clear hw2 hp
    (go_wp2_with fail; refine (HB.out _).mono ?_; rintro e_ w_ ⟨he_, hw_⟩; subst he_; have hs_ := hw_.symm; clear hw_; subst hs_)
    go_wp2_with fail
    refine (HR.out 4 _).mono ?_
    rintro e w3 ⟨rfl, hb3⟩
    have HX3 := hid (HX.out.below hb3)
    clear hb3 HX
    go_wp2_with (refine wpList_store_blk rfl 46 _ _ rfl p rfl (rsC 4 0 0) rfl HX3.out.b rfl I0.out (rsC_one _ _ _) ?_; intro w9 HB9 HU9)
    refine bodyPost_ret (results_blk (cs := (rsC 4 0 0)) Tryz.results120 rfl agg_rs HB9.out) rfl ?_
    exact ⟨rfl, hid (HX3.out.done HU9.out)⟩
  have d3 : decide (nd < 1) = false := decide_eq_false h3
  by_cases h4 : 64 < nd
  · as_aux_lemma =>
    rw [if_pos (.inr h4)] at hR
    rw [← hR]
    clear hR
    have d4 : decide (nd > 64) = true := decide_eq_true h4
    have d4' : decide (64 < nd) = true := decide_eq_true h4
    go_enter Tryz.func120, Tryz.ntmps120
    go_upto_region 1 with fail
    (try simp only [hp])
    generalize hw2 : w.alloc _ = w2 at HX ⊢
    clear hw2 hp
    (go_wp2_with fail; refine (HB.out _).mono ?_; rintro e_ w_ ⟨he_, hw_⟩; subst he_; have hs_ := hw_.symm; clear hw_; subst hs_)
    go_wp2_with fail
    refine (HR.out 4 _).mono ?_
    rintro e w3 ⟨rfl, hb3⟩
    have HX3 := hid (HX.out.below hb3)
    clear hb3 HX
    go_wp2_with (refine wpList_store_blk rfl 46 _ _ rfl p rfl (rsC 4 0 0) rfl HX3.out.b rfl I0.out (rsC_one _ _ _) ?_; intro w9 HB9 HU9)
    refine bodyPost_ret (results_blk (cs := (rsC 4 0 0)) Tryz.results120 rfl agg_rs HB9.out) rfl ?_
    exact ⟨rfl, hid (HX3.out.done HU9.out)⟩
  have d4 : decide (nd > 64) = false := decide_eq_false h4
  have d4' : decide (64 < nd) = false := decide_eq_false h4
  rw [if_neg (by omega)] at hR
  as_aux_lemma =>
  obtain ⟨fn, hfn⟩ : ∃ n : Nat, (n : Int) = f := ⟨f.toNat, by omega⟩
  obtain ⟨nn, hnn⟩ : ∃ n : Nat, (n : Int) = nd := ⟨nd.toNat, by omega⟩
  rw [show f.toNat = fn by omega, show nd.toNat = nn by omega] at hR
  have hnb : 1 ≤ nn ∧ nn ≤ 64 ∧ fn < 64 := by omega
  have HRR := hid hR
  clear hc hR
  go_enter Tryz.func120, Tryz.ntmps120
  go_upto_region 1 with fail
  (try simp only [hp])
  generalize hw2 : w.alloc _ = w2 at HX ⊢
  clear hw2 hp
  (go_wp2_with fail; refine (HB.out _).mono ?_; rintro e_ w_ ⟨he_, hw_⟩; subst he_; have hs_ := hw_.symm; clear hw_; subst hs_)
  go_upto_region 6 with fail
  clear d3 d4 d4' HB
  go_loopw [7] (fun u wr => wr = w2 ∧ ∃ b : Nat, u = .int .i64 (b : Int) ∧ fn ≤ b ∧ b ≤ 64 ∧ Hid (fbF E.T nn (65 - nn - fn) = fbF E.T nn (65 - nn - b))) (fun u _ => 64 - (intOf u).toNat)
  case atStart => exact ⟨rfl, fn, by rw [hfn], Nat.le_refl _, by omega, hid rfl⟩
  case round =>
  obtain ⟨hwr, b, rfl, hb0, hb, HI⟩ := hrel
  have hwr' := hwr.symm
  clear hwr
  subst hwr'
  obtain ⟨y, hy⟩ : ∃ y, b + nn = y := ⟨_, rfl⟩
  have ey : (b : Int) + nd = (y : Int) := by omega
  have hyb : y ≤ 128 := by omega
  by_cases hql : y ≤ 64
  rotate_left
  · as_aux_lemma =>
    have dq : decide ((y : Int) ≤ 64) = false := decide_eq_false (by omega)
    have dqn : decide (y ≤ 64) = false := decide_eq_false hql
    have HR2 : Hid (R = rsC 0 0 0) := hid (by
      rw [← HRR.out, HI.out, show 65 - nn - b = 0 by omega]; rfl)
    clear HRR HI
    go_wp2_with fail
    refine (HA.out _).mono ?_
    rintro e w3 ⟨rfl, hb3⟩
    have HX3 := hid (HX.out.below hb3)
    clear hb3 HX
    go_wp2_with (refine wpList_store_blk rfl 46 _ _ rfl p rfl (rsC 0 0 0) rfl HX3.out.b rfl I0.out (rsC_one _ _ _) ?_; intro w9 HB9 HU9)
    refine bodyPost_ret (results_blk (cs := (rsC 0 0 0)) Tryz.results120 rfl agg_rs HB9.out) rfl ?_
    exact ⟨by rw [HR2.out], hid (HX3.out.done HU9.out)⟩
  have dq : decide ((y : Int) ≤ 64) = true := decide_eq_true (by omega)
  have dqn : decide (y ≤ 64) = true := decide_eq_true hql
  have Hs : Hid (fbF E.T nn (65 - nn - fn) = if izE (usedE E.T) b nn = true then some b else fbF E.T nn (65 - nn - (b + 1))) := hid (by
    rw [HI.out, show 65 - nn - b = (65 - nn - (b + 1)) + 1 by omega]
    show (if izE (usedE E.T) (64 - nn - (65 - nn - (b + 1))) nn = true then some (64 - nn - (65 - nn - (b + 1))) else fbF E.T nn (65 - nn - (b + 1))) = _
    rw [show 64 - nn - (65 - nn - (b + 1)) = b by omega])
  clear HI
  go_upto_region 10 with fail
  clear dq dqn
  go_loopw [8, 9] (fun t u wr => wr = w2 ∧ ∃ q : Nat, u = .int .i64 ((b + q : Nat) : Int) ∧ t = .bool (izE (usedE E.T) b q) ∧ q ≤ nn) (fun _ u _ => 64 - (intOf u).toNat)
  case atStart => exact ⟨rfl, 0, rfl, by rw [izE_zero], Nat.zero_le _⟩
  case round =>
  obtain ⟨hwr, q, rfl, rfl, hq⟩ := hrel
  have hwr' := hwr.symm
  clear hwr
  subst hwr'
  obtain ⟨i, hi⟩ : ∃ i, b + q = i := ⟨_, rfl⟩
  rw [hi]
  by_cases hil : i < y
  · have di : decide ((i : Int) < (y : Int)) = true := decide_eq_true (by omega)
    have din : decide (i < y) = true := decide_eq_true hil
    have HF := hid (flsM HX.out.md.mm (b := i) (by omega))
    have hle := flE_le E.T i 32
    have hu : usedE E.T (b + q) = 32 - flE E.T i 32 := by rw [hi]; rfl
    obtain ⟨x, hx⟩ : ∃ x, flE E.T i 32 = x := ⟨_, rfl⟩
    rw [hx] at HF hle hu
    have Hu := hid hu
    clear hx hu
    by_cases h0 : x = 32
    · as_aux_lemma =>
      have d0 : ((x : Int) != 32) = false := by simp; omega
      have He : Hid (izE (usedE E.T) b (q + 1) = izE (usedE E.T) b q) := hid (izE_up (by rw [Hu.out]; omega))
      generalize izE (usedE E.T) b q = bb at *
      clear HRR Hs Hu
      (go_wp2_with fail; refine (HF.out).mono ?_; rintro e_ w_ ⟨he_, hw_⟩; subst he_; have hs_ := hw_.symm; clear hw_; subst hs_)
      go_wp2
      exact ⟨⟨by trivial, q + 1, by rw [show b + (q + 1) = i + 1 by omega]; go_num, by rw [He.out], by omega⟩, by simp [intOf]; omega⟩
    · as_aux_lemma =>
      have d0 : ((x : Int) != 32) = true := by simp; omega
      have He : Hid (izE (usedE E.T) b (q + 1) = false) := hid (izE_no (by rw [Hu.out]; omega))
      generalize izE (usedE E.T) b q = bb at *
      clear HRR Hs Hu
      (go_wp2_with fail; refine (HF.out).mono ?_; rintro e_ w_ ⟨he_, hw_⟩; subst he_; have hs_ := hw_.symm; clear hw_; subst hs_)
      go_wp2
      exact ⟨⟨by trivial, q + 1, by rw [show b + (q + 1) = i + 1 by omega]; go_num, by rw [He.out], by omega⟩, by simp [intOf]; omega⟩
  have di : decide ((i : Int) < (y : Int)) = false := decide_eq_false (by omega)
  have din : decide (i < y) = false := decide_eq_false hil
  have e0 : q = nn := by omega
  have Hs2 : Hid (fbF E.T nn (65 - nn - fn) = if izE (usedE E.T) b q = true then some b else fbF E.T nn (65 - nn - (b + 1))) := hid (by rw [Hs.out, e0])
  clear Hs e0
  obtain ⟨bb, hbb⟩ : ∃ bb, izE (usedE E.T) b q = bb := ⟨_, rfl⟩
  rw [hbb] at Hs2 ⊢
  clear hbb
  cases bb with
  | true =>
    as_aux_lemma =>
    have HR2 : Hid (R = rsC 0 (b : Int) 1) := hid (by rw [← HRR.out, Hs2.out]; rfl)
    clear HRR Hs2
    go_wp2_with fail
    refine (ansM (b : Int) 1 _).mono ?_
    rintro e w3 ⟨rfl, hb3⟩
    have HX3 := hid (HX.out.below hb3)
    clear hb3 HX
    go_wp2_with (refine wpList_store_blk rfl 46 _ _ rfl p rfl (rsC 0 (b : Int) 1) rfl HX3.out.b rfl I0.out (rsC_one _ _ _) ?_; intro w9 HB9 HU9)
    refine bodyPost_ret (results_blk (cs := (rsC 0 (b : Int) 1)) Tryz.results120 rfl agg_rs HB9.out) rfl ?_
    exact ⟨by rw [HR2.out], hid (HX3.out.done HU9.out)⟩
  | false =>
    as_aux_lemma =>
    have HI2 : Hid (fbF E.T nn (65 - nn - fn) = fbF E.T nn (65 - nn - (b + 1))) := hid (by rw [Hs2.out]; rfl)
    clear HRR Hs2
    go_wp2
    exact ⟨⟨by trivial, b + 1, by go_num, by omega, by omega, HI2⟩, by simp [intOf]; omega⟩
end
end Go.Proofs.Qxb6500887aGreat
