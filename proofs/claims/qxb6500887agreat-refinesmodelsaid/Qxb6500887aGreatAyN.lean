/- The model's steps: clearMarkedBlock, countedInLines, scrubLines. -/
import Derived.Test.Qxb6500887aGreatAyM
import Derived.Deep.DeepCutAuto
namespace Go.Proofs.Qxb6500887aGreat
open Go.RowKit
set_option linter.unusedSimpArgs false
set_option linter.unusedVariables false
section
variable {l : ML} {E E' : ES} {w w' w0 w3 w4 : World} {p : Nat}
def cmK (K : Nat → Bool) (b q : Nat) : Nat → Bool := fun i => if i < q ∧ i / 256 = b then false else K i
theorem cmK_zero (K : Nat → Bool) (b : Nat) : cmK K b 0 = K := by funext i; unfold cmK; rw [if_neg (by omega)]
theorem cmK_yes {K : Nat → Bool} {b q : Nat} (h : q / 256 = b) : cmK K b (q + 1) = fup (cmK K b q) q false := by
  funext i
  by_cases e : i = q
  · subst e; rw [fup_self]; unfold cmK; rw [if_pos ⟨by omega, h⟩]
  · rw [fup_ne _ _ e]; unfold cmK
    by_cases h1 : i < q ∧ i / 256 = b
    · rw [if_pos h1, if_pos ⟨by omega, h1.2⟩]
    · rw [if_neg h1, if_neg (by omega)]
theorem cmK_no {K : Nat → Bool} {b q : Nat} (h : q / 256 ≠ b) : cmK K b (q + 1) = cmK K b q := by
  funext i
  unfold cmK
  by_cases h1 : i < q ∧ i / 256 = b
  · rw [if_pos h1, if_pos ⟨by omega, h1.2⟩]
  · rw [if_neg h1, if_neg (by
      intro h2
      by_cases e : i = q
      · subst e; exact h h2.2
      · exact h1 ⟨by omega, h2.2⟩)]
def cmE (E : ES) (b : Int) : Int × ES := if b < 0 ∨ 64 ≤ b then (1, E) else (0, { E.tch with K := cmK E.K b.toNat 16384 })
def clE (C : Nat → Nat) (lo n : Nat) : Nat := cnt (fun i => !(C (lo + i) == 0)) n
def clR (C : Nat → Nat) (a n : Int) : List Value := if lrC a n = 0 then rsC 0 ((clE C (8 * a.toNat) (8 * n.toNat) : Nat) : Int) 0 else rsC (lrC a n) 0 0
set_option maxRecDepth 100000 in
set_option maxHeartbeats 2000000 in
theorem cmM (h : MM l E w) (b : Int) : Calls Tryz.prog 112 #[.pointer (some ⟨l.m, 0, none⟩), .int .i64 b] w fun e w' => e = .returned (.agg (rsC (cmE E b).1 0 0).toArray) ∧ Hid (MD w l (cmE E b).2 w') := by
  have I0 := hid info_rs
  have HR := hid (fun (c : Int) (wz : World) => refM c wz)
  have HA := hid (fun wz => ansM 0 0 wz)
  have HB := hid (fun wz => bbM b wz)
  obtain ⟨p, hp⟩ : ∃ p, w.heap.size = p := ⟨_, rfl⟩
  have HX := hid (MX.start h hp)
  dsimp only [rsC, rsT] at HX
  clear h
  unfold cmE
  by_cases hc : b < 0 ∨ 64 ≤ b
  · as_aux_lemma =>
    rw [if_pos hc]
    rw [decide_eq_true hc] at HB
    clear hc
    go_enter Tryz.func112, Tryz.ntmps112
    go_upto_region 1 with fail
    (try simp only [hp])
    generalize hw2 : w.alloc _ = w2 at HX ⊢
    clear hw2 hp
    (go_wp2_with fail; refine (HB.out _).mono ?_; rintro e_ w_ ⟨he_, hw_⟩; subst he_; have hs_ := hw_.symm; clear hw_; subst hs_)
    go_wp2_with fail
    refine (HR.out 1 _).mono ?_
    rintro e w3 ⟨rfl, hb3⟩
    have HX3 := hid (HX.out.below hb3)
    clear hb3 HX
    go_wp2_with (refine wpList_store_blk rfl 46 _ _ rfl p rfl (rsC 1 0 0) rfl HX3.out.b rfl I0.out (rsC_one _ _ _) ?_; intro w9 HB9 HU9)
    refine bodyPost_ret (results_blk (cs := (rsC 1 0 0)) Tryz.results112 rfl agg_rs HB9.out) rfl ?_
    exact ⟨rfl, hid (HX3.out.done HU9.out)⟩
  as_aux_lemma =>
  rw [if_neg hc]
  rw [decide_eq_false hc] at HB
  obtain ⟨b, rfl⟩ : ∃ n : Nat, b = (n : Int) := ⟨b.toNat, by omega⟩
  rw [show ((b : Int)).toNat = b by omega]
  clear hc
  go_enter Tryz.func112, Tryz.ntmps112
  go_upto_region 1 with fail
  (try simp only [hp])
  generalize hw2 : w.alloc _ = w2 at HX ⊢
  clear hw2 hp
  (go_wp2_with fail; refine (HB.out _).mono ?_; rintro e_ w_ ⟨he_, hw_⟩; subst he_; have hs_ := hw_.symm; clear hw_; subst hs_)
  obtain ⟨_, _, _, _, _, c5⟩ := HX.out.md.mm.cells
  have f5 := HX.out.md.mm.m.frozen 5
  have HX2 := hid HX.out.ver
  have vw := ver_wrap E.v
  generalize ((E.v + 1) % 18446744073709551616 : Nat) = v1 at vw HX2
  clear HX
  go_upto_region 4 with fail
  clear c5 f5
  generalize hw3 : World.setCell _ _ _ = w3 at HX2 ⊢
  clear hw3 vw
  have c2 := HX2.out.md.mm.cells.2.2.1
  go_upto_region 5 with fail
  clear c2
  go_loopw [21] (fun u wr => ∃ q : Nat, u = .int .i64 (q : Int) ∧ q ≤ 16384 ∧ Hid (MX w l { E.tch with K := cmK E.K b q } p wr)) (fun u _ => 16384 - (intOf u).toNat)
  case atStart => exact ⟨0, rfl, Nat.zero_le _, hid (by rw [cmK_zero]; exact HX2.out)⟩
  case round =>
  clear HX2
  obtain ⟨q, rfl, hq, HK⟩ := hrel
  by_cases hql : q < 16384
  · have dq : decide ((q : Int) < 16384) = true := decide_eq_true (by omega)
    have dqn : decide (q < 16384) = true := decide_eq_true hql
    obtain ⟨y, hy⟩ : ∃ y, q / 256 = y := ⟨_, rfl⟩
    obtain ⟨q2, hq2⟩ : ∃ q2 : Nat, 2 * q = q2 := ⟨_, rfl⟩
    have e2 : (q : Int) * 2 = (q2 : Int) := by omega
    have hq2b : q2 ≤ 40000 := by omega
    have ey : ((q2 : Nat) : Int).tdiv 512 = (y : Int) := by rw [Int.tdiv_eq_ediv_of_nonneg (by omega)]; omega
    have ey' : (q2 : Int) / 512 = (y : Int) := by omega
    have Hy := hid hy
    clear hy hq2
    by_cases hb : y = b
    · as_aux_lemma =>
      have db : ((y : Int) == (b : Int)) = true := by simp; omega
      have c2 := HK.out.md.mm.cells.2.2.1
      obtain ⟨cv, cz⟩ : ∃ cv, wr.cell? ⟨l.k, q, none⟩ = some cv := ⟨_, HK.out.md.mm.mark hql⟩
      have fz := HK.out.md.mm.k.frozen q
      have HF : Hid (MX w l { E.tch with K := cmK E.K b (q + 1) } p (wr.setCell ⟨l.k, q, none⟩ (.bool false))) := hid (by
        rw [cmK_yes (by rw [Hy.out]; exact hb)]
        exact HK.out.step ((MD.start HK.out.md.mm).putK (i := q) (x := false) hql))
      clear HK
      go_wp2
      exact ⟨⟨q + 1, by go_num, by omega, HF⟩, by simp [intOf]; omega⟩
    · as_aux_lemma =>
      have db : ((y : Int) == (b : Int)) = false := by simp; omega
      have HF : Hid (MX w l { E.tch with K := cmK E.K b (q + 1) } p wr) := hid (by
        rw [cmK_no (by rw [Hy.out]; exact hb)]
        exact HK.out)
      clear HK
      go_wp2
      exact ⟨⟨q + 1, by go_num, by omega, HF⟩, by simp [intOf]; omega⟩
  · as_aux_lemma =>
    have dq : decide ((q : Int) < 16384) = false := decide_eq_false (by omega)
    have dqn : decide (q < 16384) = false := decide_eq_false hql
    have e0 : q = 16384 := by omega
    have HX : Hid (MX w l { E.tch with K := cmK E.K b 16384 } p wr) := hid (by rw [e0] at HK; exact HK.out)
    clear HK e0
    go_wp2_with fail
    refine (HA.out _).mono ?_
    rintro e w3 ⟨rfl, hb3⟩
    have HX3 := hid (HX.out.below hb3)
    clear hb3 HX
    go_wp2_with (refine wpList_store_blk rfl 46 _ _ rfl p rfl (rsC 0 0 0) rfl HX3.out.b rfl I0.out (rsC_one _ _ _) ?_; intro w9 HB9 HU9)
    refine bodyPost_ret (results_blk (cs := (rsC 0 0 0)) Tryz.results112 rfl agg_rs HB9.out) rfl ?_
    exact ⟨rfl, hid (HX3.out.done HU9.out)⟩
set_option maxRecDepth 100000 in
set_option maxHeartbeats 2000000 in
theorem clM' (h : MM l E w) (a n : Int) : Calls Tryz.prog 122 #[.pointer (some ⟨l.m, 0, none⟩), .int .i64 a, .int .i64 n] w fun e w' => e = .returned (.agg (clR E.C a n).toArray) ∧ Hid (MD w l E w') := by
  unfold clR
  have I0 := hid info_rs
  have HR := hid (fun (c : Int) (wz : World) => refM c wz)
  have HA := hid (fun wz => ansM 0 0 wz)
  have HB := hid (fun wz => blM a wz)
  obtain ⟨p, hp⟩ : ∃ p, w.heap.size = p := ⟨_, rfl⟩
  have HX := hid (MX.start h hp)
  dsimp only [rsC, rsT] at HX
  clear h
  by_cases hc : a < 0 ∨ 2048 ≤ a
  · as_aux_lemma =>
    have e1 : lrC a n = 1 := by unfold lrC; rw [if_neg (by omega)]
    rw [e1, if_neg (by decide)]
    rw [decide_eq_true hc] at HB
    clear hc e1
    go_enter Tryz.func122, Tryz.ntmps122
    go_upto_region 1 with fail
    (try simp only [hp])
    generalize hw2 : w.alloc _ = w2 at HX ⊢
    clear hw2 hp
    (go_wp2_with fail; refine (HB.out _).mono ?_; rintro e_ w_ ⟨he_, hw_⟩; subst he_; have hs_ := hw_.symm; clear hw_; subst hs_)
    go_wp2_with fail
    refine (HR.out 1 _).mono ?_
    rintro e w3 ⟨rfl, hb3⟩
    have HX3 := hid (HX.out.below hb3)
    clear hb3 HX
    go_wp2_with (refine wpList_store_blk rfl 46 _ _ rfl p rfl (rsC 1 0 0) rfl HX3.out.b rfl I0.out (rsC_one _ _ _) ?_; intro w9 HB9 HU9)
    refine bodyPost_ret (results_blk (cs := (rsC 1 0 0)) Tryz.results122 rfl agg_rs HB9.out) rfl ?_
    exact ⟨rfl, hid (HX3.out.done HU9.out)⟩
  rw [decide_eq_false hc] at HB
  have e1 : lrC a n = lenG a n 2048 := by unfold lrC; rw [if_pos (by omega)]
  rw [e1]
  obtain ⟨k, rfl⟩ : ∃ k : Nat, a = (k : Int) := ⟨a.toNat, by omega⟩
  rw [show ((k : Int)).toNat = k by omega]
  have hk : k < 2048 := by omega
  clear hc e1
  have HL := hid (fun wz => ckrM (k : Int) n 2048 (by omega) (by omega) (by omega) wz)
  by_cases hc : lenG (k : Int) n 2048 = 0
  rotate_left
  · as_aux_lemma =>
    rw [if_neg hc]
    generalize lenG (k : Int) n 2048 = c at *
    have dc : (c != 0) = true := by simpa using hc
    have dc' : (c == 0) = false := by simpa using hc
    go_enter Tryz.func122, Tryz.ntmps122
    go_upto_region 1 with fail
    (try simp only [hp])
    generalize hw2 : w.alloc _ = w2 at HX ⊢
    clear hw2 hp
    (go_wp2_with fail; refine (HB.out _).mono ?_; rintro e_ w_ ⟨he_, hw_⟩; subst he_; have hs_ := hw_.symm; clear hw_; subst hs_)
    (go_wp2_with fail; refine (HL.out _).mono ?_; rintro e_ w_ ⟨he_, hw_⟩; subst he_; have hs_ := hw_.symm; clear hw_; subst hs_)
    go_wp2_with fail
    refine (HR.out c _).mono ?_
    rintro e w3 ⟨rfl, hb3⟩
    have HX3 := hid (HX.out.below hb3)
    clear hb3 HX
    go_wp2_with (refine wpList_store_blk rfl 46 _ _ rfl p rfl (rsC c 0 0) rfl HX3.out.b rfl I0.out (rsC_one _ _ _) ?_; intro w9 HB9 HU9)
    refine bodyPost_ret (results_blk (cs := (rsC c 0 0)) Tryz.results122 rfl agg_rs HB9.out) rfl ?_
    exact ⟨rfl, hid (HX3.out.done HU9.out)⟩
  as_aux_lemma =>
  rw [if_pos hc]
  rw [hc] at HL
  have hb := lenG_ok hc
  clear hc
  obtain ⟨m, rfl⟩ : ∃ m : Nat, n = (m : Int) := ⟨n.toNat, by omega⟩
  have hm1 : 1 ≤ m := by omega
  have hm2 : k + m ≤ 2048 := by omega
  rw [show ((m : Int)).toNat = m by omega]
  clear hb

  obtain ⟨lo, hlo⟩ : ∃ lo, 8 * k = lo := ⟨_, rfl⟩
  obtain ⟨y, hy⟩ : ∃ y, k + m = y := ⟨_, rfl⟩
  obtain ⟨hi, hhi⟩ : ∃ hi, 8 * y = hi := ⟨_, rfl⟩
  obtain ⟨N, hN⟩ : ∃ N, 8 * m = N := ⟨_, rfl⟩
  rw [hlo, hN]
  have elo : (k : Int) * 8 = (lo : Int) := by omega
  have ey : (k : Int) + (m : Int) = (y : Int) := by omega
  have ehi : (y : Int) * 8 = (hi : Int) := by omega
  have hb1 : lo + N = hi ∧ hi ≤ 16384 ∧ y ≤ 2048 := by omega
  clear hlo hy hhi hN
  go_enter Tryz.func122, Tryz.ntmps122
  go_upto_region 1 with fail
  (try simp only [hp])
  generalize hw2 : w.alloc _ = w2 at HX ⊢
  clear hw2 hp
  (go_wp2_with fail; refine (HB.out _).mono ?_; rintro e_ w_ ⟨he_, hw_⟩; subst he_; have hs_ := hw_.symm; clear hw_; subst hs_)
  (go_wp2_with fail; refine (HL.out _).mono ?_; rintro e_ w_ ⟨he_, hw_⟩; subst he_; have hs_ := hw_.symm; clear hw_; subst hs_)
  go_upto_region 8 with fail
  go_loopw [8, 9] (fun t u wr => wr = w2 ∧ ∃ q : Nat, u = .int .i64 ((lo + q : Nat) : Int) ∧ t = .int .u64 ((clE E.C lo q : Nat) : Int) ∧ q ≤ N) (fun _ u _ => 16385 - (intOf u).toNat)
  case atStart => exact ⟨rfl, 0, rfl, rfl, Nat.zero_le _⟩
  case round =>
  obtain ⟨hwr, q, rfl, rfl, hq⟩ := hrel
  have hwr' := hwr.symm
  clear hwr
  subst hwr'
  obtain ⟨i, hi'⟩ : ∃ i, lo + q = i := ⟨_, rfl⟩
  rw [hi']
  have hcb : clE E.C lo q ≤ q := cnt_bound _ _
  by_cases hql : i < hi
  · have dq : decide ((i : Int) < (hi : Int)) = true := decide_eq_true (by omega)
    have c1 := HX.out.md.mm.cells.2.1
    have hi2 : i < 16384 := by omega
    have cz := HX.out.md.mm.count hi2
    have Hs : Hid (clE E.C lo (q + 1) = clE E.C lo q + (!(E.C i == 0)).toNat) := hid (by rw [← hi']; rfl)
    generalize clE E.C lo q = f at *
    obtain ⟨x, hx⟩ : ∃ x, E.C i = x := ⟨_, rfl⟩
    rw [hx] at cz Hs
    clear hx
    by_cases h0 : x = 0
    · as_aux_lemma =>
      have d0 : ((x : Int) != 0) = false := by simp; omega
      have Hs2 : Hid (clE E.C lo (q + 1) = f) := hid (by rw [Hs.out, h0]; rfl)
      clear Hs h0
      go_wp2
      exact ⟨⟨by trivial, q + 1, by rw [show lo + (q + 1) = i + 1 by omega]; go_num, by rw [Hs2.out], by omega⟩, by simp [intOf]; omega⟩
    · as_aux_lemma =>
      have d0 : ((x : Int) != 0) = true := by simp; omega
      have Hs2 : Hid (clE E.C lo (q + 1) = f + 1) := hid (by
        rw [Hs.out, show (x == 0) = false by simpa using h0]; rfl)
      clear Hs h0
      go_wp2
      exact ⟨⟨by trivial, q + 1, by rw [show lo + (q + 1) = i + 1 by omega]; go_num, by rw [Hs2.out]; go_num, by omega⟩, by simp [intOf]; omega⟩
  · as_aux_lemma =>
    have dq : decide ((i : Int) < (hi : Int)) = false := decide_eq_false (by omega)
    have e0 : q = N := by omega
    have Hf : Hid (clE E.C lo q = clE E.C lo N) := hid (by rw [e0])
    generalize clE E.C lo q = f at *
    go_wp2_with fail
    refine (ansM (f : Int) 0 _).mono ?_
    rintro e w3 ⟨rfl, hb3⟩
    have HX3 := hid (HX.out.below hb3)
    clear hb3 HX
    go_wp2_with (refine wpList_store_blk rfl 46 _ _ rfl p rfl (rsC 0 (f : Int) 0) rfl HX3.out.b rfl I0.out (rsC_one _ _ _) ?_; intro w9 HB9 HU9)
    refine bodyPost_ret (results_blk (cs := (rsC 0 (f : Int) 0)) Tryz.results122 rfl agg_rs HB9.out) rfl ?_
    exact ⟨by rw [Hf.out], hid (HX3.out.done HU9.out)⟩
end
end Go.Proofs.Qxb6500887aGreat
