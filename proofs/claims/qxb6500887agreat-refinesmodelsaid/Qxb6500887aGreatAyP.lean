/- The model's steps: shift. -/
import Derived.Test.Qxb6500887aGreatAyO
import Derived.Deep.DeepCutAuto
namespace Go.Proofs.Qxb6500887aGreat
open Go.RowKit
set_option linter.unusedSimpArgs false
set_option linter.unusedVariables false
section
variable {l : ML} {E E' : ES} {w w' w0 w3 w4 : World} {p : Nat}
/-- d added to the tallies from lo up to below hi. -/
def shT (T : Nat → Nat) (lo hi : Nat) (d : Int) : Nat → Nat := fun i => if lo ≤ i ∧ i < hi then ((T i : Int) + d).toNat else T i
theorem shT_zero (T : Nat → Nat) (lo : Nat) (d : Int) : shT T lo (lo + 0) d = T := by funext i; unfold shT; rw [if_neg (by omega)]
theorem shT_at (T : Nat → Nat) (lo j : Nat) (d : Int) : shT T lo (lo + j) d (lo + j) = T (lo + j) := by unfold shT; rw [if_neg (by omega)]
theorem shT_step (T : Nat → Nat) (lo j : Nat) (d : Int) : shT T lo (lo + j + 1) d = fup (shT T lo (lo + j) d) (lo + j) ((T (lo + j) : Int) + d).toNat := by
  funext q
  by_cases e : q = lo + j
  · subst e; rw [fup_self]; unfold shT; rw [if_pos (by omega)]
  · rw [fup_ne _ _ e]; unfold shT
    by_cases h : lo ≤ q ∧ q < lo + j
    · rw [if_pos h, if_pos (by omega)]
    · rw [if_neg h, if_neg (by omega)]
def ShP (T : Nat → Nat) (lo n : Nat) (d : Int) : Prop := ∀ i, i < n → 0 ≤ (T (lo + i) : Int) + d ∧ (T (lo + i) : Int) + d ≤ 15
open Classical in
noncomputable def shE (E : ES) (a n d : Int) : Int × ES := if wantO a = 0 then (if lenG ((2 * gIx a : Nat) : Int) n 32768 = 0 then (if ShP E.T (2 * gIx a / 16) ((2 * gIx a + n.toNat - 1) / 16 + 1 - 2 * gIx a / 16) d then (0, { E.tch with T := shT E.T (2 * gIx a / 16) ((2 * gIx a + n.toNat - 1) / 16 + 1) d }) else (10, E)) else (lenG ((2 * gIx a : Nat) : Int) n 32768, E)) else (wantO a, E)
set_option maxRecDepth 100000 in
set_option maxHeartbeats 4000000 in
theorem shiftM (h : MM l E w) (a n d : Int) (hd : d = 1 ∨ d = -1) : Calls Tryz.prog 114 #[.pointer (some ⟨l.m, 0, none⟩), .int .u64 a, .int .i64 n, .int .i64 d] w fun e w' => e = .returned (.agg (rsC (shE E a n d).1 0 0).toArray) ∧ Hid (MD w l (shE E a n d).2 w') := by
  have I0 := hid info_rs
  have HR := hid (fun (c : Int) (wz : World) => refM c wz)
  have HA := hid (fun wz => ansM 0 0 wz)
  have HW := hid (fun wz => ckoM a wz)
  obtain ⟨p, hp⟩ : ∃ p, w.heap.size = p := ⟨_, rfl⟩
  have HX := hid (MX.start h hp)
  dsimp only [rsC, rsT] at HX
  clear h
  unfold shE
  by_cases hc : wantO a = 0
  rotate_left
  · as_aux_lemma =>
    rw [if_neg hc]
    generalize wantO a = c at *
    have dc : (c != 0) = true := by simpa using hc
    have dc' : (c == 0) = false := by simpa using hc
    go_enter Tryz.func114, Tryz.ntmps114
    go_upto_region 1 with fail
    (try simp only [hp])
    generalize hw2 : w.alloc _ = w2 at HX ⊢
    clear hw2 hp
    (go_wp2_with fail; refine (HW.out _).mono ?_; rintro e_ w_ ⟨he_, hw_⟩; subst he_; have hs_ := hw_.symm; clear hw_; subst hs_)
    go_wp2_with fail
    refine (HR.out c _).mono ?_
    rintro e w3 ⟨rfl, hb3⟩
    have HX3 := hid (HX.out.below hb3)
    clear hb3 HX
    go_wp2_with (refine wpList_store_blk rfl 46 _ _ rfl p rfl (rsC c 0 0) rfl HX3.out.b rfl I0.out (rsC_one _ _ _) ?_; intro w9 HB9 HU9)
    refine bodyPost_ret (results_blk (cs := (rsC c 0 0)) Tryz.results114 rfl agg_rs HB9.out) rfl ?_
    exact ⟨rfl, hid (HX3.out.done HU9.out)⟩
  rw [if_pos hc]
  rw [hc] at HW
  obtain ⟨q1, q2⟩ := wantO_ok hc
  obtain ⟨g1, g2, g3⟩ := gIx_of hc
  have HO := hid (fun wz => wofM' a q1.1 (by have := q1.2; omega) wz)
  rw [show a - 65536 = ((2 * gIx a : Nat) : Int) by omega] at HO
  have hk : 2 * gIx a < 32768 := by omega
  generalize 2 * gIx a = k at *
  clear g1 g2 g3 q1 q2 hc
  have HL := hid (fun wz => ckrM (k : Int) n 32768 (by omega) (by omega) (by omega) wz)
  by_cases hc : lenG (k : Int) n 32768 = 0
  rotate_left
  · as_aux_lemma =>
    rw [if_neg hc]
    generalize lenG (k : Int) n 32768 = c at *
    have dc : (c != 0) = true := by simpa using hc
    have dc' : (c == 0) = false := by simpa using hc
    go_enter Tryz.func114, Tryz.ntmps114
    go_upto_region 1 with fail
    (try simp only [hp])
    generalize hw2 : w.alloc _ = w2 at HX ⊢
    clear hw2 hp
    (go_wp2_with fail; refine (HW.out _).mono ?_; rintro e_ w_ ⟨he_, hw_⟩; subst he_; have hs_ := hw_.symm; clear hw_; subst hs_)
    (go_wp2_with fail; refine (HO.out _).mono ?_; rintro e_ w_ ⟨he_, hw_⟩; subst he_; have hs_ := hw_.symm; clear hw_; subst hs_)
    (go_wp2_with fail; refine (HL.out _).mono ?_; rintro e_ w_ ⟨he_, hw_⟩; subst he_; have hs_ := hw_.symm; clear hw_; subst hs_)
    go_wp2_with fail
    refine (HR.out c _).mono ?_
    rintro e w3 ⟨rfl, hb3⟩
    have HX3 := hid (HX.out.below hb3)
    clear hb3 HX
    go_wp2_with (refine wpList_store_blk rfl 46 _ _ rfl p rfl (rsC c 0 0) rfl HX3.out.b rfl I0.out (rsC_one _ _ _) ?_; intro w9 HB9 HU9)
    refine bodyPost_ret (results_blk (cs := (rsC c 0 0)) Tryz.results114 rfl agg_rs HB9.out) rfl ?_
    exact ⟨rfl, hid (HX3.out.done HU9.out)⟩
  as_aux_lemma =>
  rw [if_pos hc]
  rw [hc] at HL
  have hb := lenG_ok hc
  clear hc
  obtain ⟨m, rfl⟩ : ∃ m : Nat, n = (m : Int) := ⟨n.toNat, by omega⟩
  have hm1 : 1 ≤ m := by omega
  have hm2 : k + m ≤ 32768 := by omega
  rw [show ((m : Int)).toNat = m by omega]
  clear hb
  obtain ⟨f, hf⟩ : ∃ f, k / 16 = f := ⟨_, rfl⟩
  obtain ⟨la, hla⟩ : ∃ la, (k + m - 1) / 16 = la := ⟨_, rfl⟩
  obtain ⟨z1, hz1⟩ : ∃ z1, k + m = z1 := ⟨_, rfl⟩
  obtain ⟨z2, hz2⟩ : ∃ z2, z1 - 1 = z2 := ⟨_, rfl⟩
  have e1 : (k : Int).tdiv 16 = (f : Int) := by rw [Int.tdiv_eq_ediv_of_nonneg (by omega)]; omega
  have e1' : (k : Int) / 16 = (f : Int) := by omega
  have e2 : (k : Int) + (m : Int) = (z1 : Int) := by omega
  have e3 : (z1 : Int) - 1 = (z2 : Int) := by omega
  have e4 : (z2 : Int).tdiv 16 = (la : Int) := by rw [Int.tdiv_eq_ediv_of_nonneg (by omega)]; omega
  have e4' : (z2 : Int) / 16 = (la : Int) := by omega
  have hfl : f ≤ la ∧ la < 2048 := by omega
  have hzb : z1 ≤ 32768 ∧ z2 ≤ 32768 := by omega
  rw [hf, hla]
  obtain ⟨N, hN⟩ : ∃ N, la + 1 - f = N := ⟨_, rfl⟩
  rw [hN, show la + 1 = f + N by omega]
  clear hf hla hz1 hz2
  obtain ⟨R, hR⟩ : ∃ R, (@ite _ (ShP E.T f N d) (Classical.propDecidable _) ((0 : Int), { E.tch with T := shT E.T f (f + N) d }) (10, E)) = R := ⟨_, rfl⟩
  rw [hR]
  have HRR := hid hR
  clear hR
  go_enter Tryz.func114, Tryz.ntmps114
  go_upto_region 1 with fail
  (try simp only [hp])
  generalize hw2 : w.alloc _ = w2 at HX ⊢
  clear hw2 hp
  (go_wp2_with fail; refine (HW.out _).mono ?_; rintro e_ w_ ⟨he_, hw_⟩; subst he_; have hs_ := hw_.symm; clear hw_; subst hs_)
  (go_wp2_with fail; refine (HO.out _).mono ?_; rintro e_ w_ ⟨he_, hw_⟩; subst he_; have hs_ := hw_.symm; clear hw_; subst hs_)
  (go_wp2_with fail; refine (HL.out _).mono ?_; rintro e_ w_ ⟨he_, hw_⟩; subst he_; have hs_ := hw_.symm; clear hw_; subst hs_)
  (go_wp2_with fail; refine (HO.out _).mono ?_; rintro e_ w_ ⟨he_, hw_⟩; subst he_; have hs_ := hw_.symm; clear hw_; subst hs_)
  (go_wp2_with fail; refine (HO.out _).mono ?_; rintro e_ w_ ⟨he_, hw_⟩; subst he_; have hs_ := hw_.symm; clear hw_; subst hs_)
  clear HW HO HL
  go_upto_region 10 with fail
  clear e1 e1' e2 e3 e4 e4'
  go_loopw [13] (fun u wr => wr = w2 ∧ ∃ q : Nat, u = .int .i64 ((f + q : Nat) : Int) ∧ q ≤ N ∧ Hid (ShP E.T f q d)) (fun u _ => 2049 - (intOf u).toNat)
  case atStart => exact ⟨rfl, 0, rfl, Nat.zero_le _, hid (fun i hi => by omega)⟩
  case round =>
  obtain ⟨hwr, q, rfl, hq, HI⟩ := hrel
  have hwr' := hwr.symm
  clear hwr
  subst hwr'
  obtain ⟨i, hi⟩ : ∃ i, f + q = i := ⟨_, rfl⟩
  rw [hi]
  by_cases hql : i ≤ la
  · have dq : decide ((i : Int) ≤ (la : Int)) = true := decide_eq_true (by omega)
    have c4 := HX.out.md.mm.cells.2.2.2.2.1
    have hi2 : i < 2048 := by omega
    have cz := HX.out.md.mm.tally hi2
    obtain ⟨x, hx⟩ : ∃ x, E.T i = x := ⟨_, rfl⟩
    have hx15 : x ≤ 15 := by rw [← hx]; exact HX.out.md.mm.tl i
    have Hx : Hid (E.T (f + q) = x) := hid (by rw [hi]; exact hx)
    rw [hx] at cz
    clear hx
    obtain ⟨s, hs⟩ : ∃ s, (x : Int) + d = s := ⟨_, rfl⟩
    have hsb : -1 ≤ s ∧ s ≤ 16 := by omega
    by_cases h0 : s < 0
    · as_aux_lemma =>
      have d0 : decide (s < 0) = true := decide_eq_true h0
      have HR2 : Hid (R = (10, E)) := hid (by
        rw [← HRR.out, if_neg]
        intro hz
        have := hz q (by omega)
        rw [Hx.out] at this
        omega)
      clear HI Hx HRR hd
      go_wp2_with fail
      refine (HR.out 10 _).mono ?_
      rintro e w3 ⟨rfl, hb3⟩
      have HX3 := hid (HX.out.below hb3)
      clear hb3 HX
      go_wp2_with (refine wpList_store_blk rfl 46 _ _ rfl p rfl (rsC 10 0 0) rfl HX3.out.b rfl I0.out (rsC_one _ _ _) ?_; intro w9 HB9 HU9)
      refine bodyPost_ret (results_blk (cs := (rsC 10 0 0)) Tryz.results114 rfl agg_rs HB9.out) rfl ?_
      exact ⟨by rw [HR2.out], hid (by rw [HR2.out]; exact HX3.out.done HU9.out)⟩
    have d0 : decide (s < 0) = false := decide_eq_false h0
    by_cases h1 : s > 15
    · as_aux_lemma =>
      have d1 : decide (s > 15) = true := decide_eq_true h1
      have d1' : decide (15 < s) = true := decide_eq_true h1
      have HR2 : Hid (R = (10, E)) := hid (by
        rw [← HRR.out, if_neg]
        intro hz
        have := hz q (by omega)
        rw [Hx.out] at this
        omega)
      clear HI Hx HRR hd
      go_wp2_with fail
      refine (HR.out 10 _).mono ?_
      rintro e w3 ⟨rfl, hb3⟩
      have HX3 := hid (HX.out.below hb3)
      clear hb3 HX
      go_wp2_with (refine wpList_store_blk rfl 46 _ _ rfl p rfl (rsC 10 0 0) rfl HX3.out.b rfl I0.out (rsC_one _ _ _) ?_; intro w9 HB9 HU9)
      refine bodyPost_ret (results_blk (cs := (rsC 10 0 0)) Tryz.results114 rfl agg_rs HB9.out) rfl ?_
      exact ⟨by rw [HR2.out], hid (by rw [HR2.out]; exact HX3.out.done HU9.out)⟩
    as_aux_lemma =>
    have d1 : decide (s > 15) = false := decide_eq_false h1
    have d1' : decide (15 < s) = false := decide_eq_false h1
    have HN : Hid (ShP E.T f (q + 1) d) := hid (fun j hj => by
      by_cases e : j = q
      · rw [e, Hx.out]; omega
      · exact HI.out j (by omega))
    clear HI Hx HRR hd
    go_wp2
    exact ⟨⟨by trivial, q + 1, by rw [show f + (q + 1) = i + 1 by omega]; go_num, by omega, HN⟩, by simp [intOf]; omega⟩
  as_aux_lemma =>
  have dq : decide ((i : Int) ≤ (la : Int)) = false := decide_eq_false (by omega)
  have e0 : q = N := by omega
  have HSh : Hid (ShP E.T f N d) := hid (by rw [← e0]; exact HI.out)
  have HR2 : Hid (R = (0, { E.tch with T := shT E.T f (f + N) d })) := hid (by
    rw [← HRR.out, if_pos HSh.out])
  clear HRR HI
  obtain ⟨_, _, _, _, _, c5⟩ := HX.out.md.mm.cells
  have f5 := HX.out.md.mm.m.frozen 5
  have HX2 := hid HX.out.ver
  have vw := ver_wrap E.v
  generalize ((E.v + 1) % 18446744073709551616 : Nat) = v1 at vw HX2
  clear HX
  go_upto_region 15 with fail
  clear c5 f5
  generalize hw3 : World.setCell _ _ _ = w3 at HX2 ⊢
  clear hw3 vw
  clear dq hql e0 hi hq HR
  go_upto_region 16 with fail
  go_loopw [14] (fun u wr => ∃ q : Nat, u = .int .i64 ((f + q : Nat) : Int) ∧ q ≤ N ∧ Hid (MX w l { E.tch with T := shT E.T f (f + q) d } p wr)) (fun u _ => 2049 - (intOf u).toNat)
  case atStart => exact ⟨0, rfl, Nat.zero_le _, hid (by rw [shT_zero]; exact HX2.out)⟩
  case round =>
  clear HX2
  obtain ⟨q, rfl, hq, HK⟩ := hrel
  obtain ⟨i, hi⟩ : ∃ i, f + q = i := ⟨_, rfl⟩
  rw [hi]
  by_cases hql : i ≤ la
  · as_aux_lemma =>
    have dq : decide ((i : Int) ≤ (la : Int)) = true := decide_eq_true (by omega)
    have hi2 : i < 2048 := by omega
    have c4 := HK.out.md.mm.cells.2.2.2.2.1
    have cz := HK.out.md.mm.tally hi2
    have hat := shT_at E.T f q d
    rw [hi] at hat
    have hcz : ({ E.tch with T := shT E.T f i d } : ES).T i = E.T i := hat
    rw [hi] at cz
    rw [hcz] at cz
    have fz := HK.out.md.mm.t.frozen i
    have hsp := HSh.out q (by omega)
    rw [hi] at hsp
    obtain ⟨x, hx⟩ : ∃ x, E.T i = x := ⟨_, rfl⟩
    rw [hx] at cz hsp
    obtain ⟨s, hs⟩ : ∃ s : Nat, (x : Int) + d = (s : Int) := ⟨((x : Int) + d).toNat, by omega⟩
    have hsb : s ≤ 15 := by omega
    have HF : Hid (MX w l { E.tch with T := shT E.T f (f + (q + 1)) d } p (wr.setCell ⟨l.t, i, none⟩ (.int .i64 (s : Int)))) := hid (by
      have := HK.out.step ((MD.start HK.out.md.mm).putT (i := i) (x := s) hi2 hsb)
      rw [show f + (q + 1) = f + q + 1 by omega, shT_step, hi, hx, hs, show ((s : Int)).toNat = s by omega]
      rw [hi] at this
      exact this)
    clear HK hat hcz hx hsp hd
    go_wp2
    exact ⟨⟨q + 1, by rw [show f + (q + 1) = i + 1 by omega]; go_num, by omega, HF⟩, by simp [intOf]; omega⟩
  · as_aux_lemma =>
    have dq : decide ((i : Int) ≤ (la : Int)) = false := decide_eq_false (by omega)
    have e0 : q = N := by omega
    have HX : Hid (MX w l { E.tch with T := shT E.T f (f + N) d } p wr) := hid (by rw [← e0]; exact HK.out)
    clear HK e0
    go_wp2_with fail
    refine (HA.out _).mono ?_
    rintro e w3 ⟨rfl, hb3⟩
    have HX3 := hid (HX.out.below hb3)
    clear hb3 HX
    go_wp2_with (refine wpList_store_blk rfl 46 _ _ rfl p rfl (rsC 0 0 0) rfl HX3.out.b rfl I0.out (rsC_one _ _ _) ?_; intro w9 HB9 HU9)
    refine bodyPost_ret (results_blk (cs := (rsC 0 0 0)) Tryz.results114 rfl agg_rs HB9.out) rfl ?_
    exact ⟨by rw [HR2.out], hid (by rw [HR2.out]; exact HX3.out.done HU9.out)⟩
end
end Go.Proofs.Qxb6500887aGreat
