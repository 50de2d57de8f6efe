/- The model's steps: fitHole. -/
import Derived.Test.Qxb6500887aGreatAyQ
import Derived.Deep.DeepCutAuto
namespace Go.Proofs.Qxb6500887aGreat
open Go.RowKit
set_option linter.unusedSimpArgs false
set_option linter.unusedVariables false
section
variable {l : ML} {E E' : ES} {w w' w0 w3 w4 : World} {p : Nat}
theorem fhF_le (T : Nat → Nat) (b f nd : Nat) : ∀ j, (fhF T b f nd j).1 ≤ 32 ∧ (fhF T b f nd j).2 ≤ 32
  | 0 => ⟨Nat.le_refl _, Nat.zero_le _⟩
  | j + 1 => by
    have := fhF_le T b f nd j
    unfold fhF
    split
    · exact ⟨by show 31 - j ≤ 32; omega, hlN_le⟩
    · exact this
set_option maxRecDepth 100000 in
set_option maxHeartbeats 2000000 in
theorem fitM (h : MM l E w) (b f nd : Int) : Calls Tryz.prog 118 #[.pointer (some ⟨l.m, 0, none⟩), .int .i64 b, .int .i64 f, .int .i64 nd] w fun e w' => e = .returned (.agg (fhR E.T b f nd).toArray) ∧ Hid (MD w l E w') := by
  have I0 := hid info_rs
  have HR := hid (fun (c : Int) (wz : World) => refM c wz)
  have HB := hid (fun wz => bbM b wz)
  obtain ⟨p, hp⟩ : ∃ p, w.heap.size = p := ⟨_, rfl⟩
  have HX := hid (MX.start h hp)
  dsimp only [rsC, rsT] at HX
  clear h
  unfold fhR
  by_cases hc : b < 0 ∨ 64 ≤ b
  · as_aux_lemma =>
    rw [if_pos (by omega)]
    rw [decide_eq_true hc] at HB
    clear hc
    go_enter Tryz.func118, Tryz.ntmps118
    go_upto_region 1 with fail
    (try simp only [hp])
    generalize hw2 : w.alloc _ = w2 at HX ⊢
    clear hw2 hp
    (go_wp2_with fail; refine (HB.out _).mono ?_; rintro e_ w_ ⟨he_, hw_⟩; subst he_; have hs_ := hw_.symm; clear hw_; subst hs_)
    go_wp2_with fail
    refine (HR.out 1 _).mono ?_
    rintro e w3 ⟨rfl, hb3⟩
    have HX3 := hid (HX.out.below hb3)
    clear hb3 HX
    go_wp2_with (refine wpList_store_blk rfl 46 _ _ rfl p rfl (rsC 1 0 0) rfl HX3.out.b rfl I0.out (rsC_one _ _ _) ?_; intro w9 HB9 HU9)
    refine bodyPost_ret (results_blk (cs := (rsC 1 0 0)) Tryz.results118 rfl agg_rs HB9.out) rfl ?_
    exact ⟨rfl, hid (HX3.out.done HU9.out)⟩
  rw [decide_eq_false hc] at HB
  by_cases h1 : f < 0
  · as_aux_lemma =>
    rw [if_pos (by omega)]
    have d1 : decide (f < 0) = true := decide_eq_true h1
    go_enter Tryz.func118, Tryz.ntmps118
    go_upto_region 1 with fail
    (try simp only [hp])
    generalize hw2 : w.alloc _ = w2 at HX ⊢
    clear hw2 hp
    (go_wp2_with fail; refine (HB.out _).mono ?_; rintro e_ w_ ⟨he_, hw_⟩; subst he_; have hs_ := hw_.symm; clear hw_; subst hs_)
    go_wp2_with fail
    refine (HR.out 1 _).mono ?_
    rintro e w3 ⟨rfl, hb3⟩
    have HX3 := hid (HX.out.below hb3)
    clear hb3 HX
    go_wp2_with (refine wpList_store_blk rfl 46 _ _ rfl p rfl (rsC 1 0 0) rfl HX3.out.b rfl I0.out (rsC_one _ _ _) ?_; intro w9 HB9 HU9)
    refine bodyPost_ret (results_blk (cs := (rsC 1 0 0)) Tryz.results118 rfl agg_rs HB9.out) rfl ?_
    exact ⟨rfl, hid (HX3.out.done HU9.out)⟩
  have d1 : decide (f < 0) = false := decide_eq_false h1
  by_cases h2 : 32 < f
  · as_aux_lemma =>
    rw [if_pos (by omega)]
    have d2 : decide (f > 32) = true := decide_eq_true h2
    have d2' : decide (32 < f) = true := decide_eq_true h2
    go_enter Tryz.func118, Tryz.ntmps118
    go_upto_region 1 with fail
    (try simp only [hp])
    generalize hw2 : w.alloc _ = w2 at HX ⊢
    clear hw2 hp
    (go_wp2_with fail; refine (HB.out _).mono ?_; rintro e_ w_ ⟨he_, hw_⟩; subst he_; have hs_ := hw_.symm; clear hw_; subst hs_)
    go_wp2_with fail
    refine (HR.out 1 _).mono ?_
    rintro e w3 ⟨rfl, hb3⟩
    have HX3 := hid (HX.out.below hb3)
    clear hb3 HX
    go_wp2_with (refine wpList_store_blk rfl 46 _ _ rfl p rfl (rsC 1 0 0) rfl HX3.out.b rfl I0.out (rsC_one _ _ _) ?_; intro w9 HB9 HU9)
    refine bodyPost_ret (results_blk (cs := (rsC 1 0 0)) Tryz.results118 rfl agg_rs HB9.out) rfl ?_
    exact ⟨rfl, hid (HX3.out.done HU9.out)⟩
  have d2 : decide (f > 32) = false := decide_eq_false h2
  have d2' : decide (32 < f) = false := decide_eq_false h2
  rw [if_neg (by omega)]
  by_cases h3 : nd < 1
  · as_aux_lemma =>
    rw [if_pos (by omega)]
    have d3 : decide (nd < 1) = true := decide_eq_true h3
    go_enter Tryz.func118, Tryz.ntmps118
    go_upto_region 1 with fail
    (try simp only [hp])
    generalize hw2 : w.alloc _ = w2 at HX ⊢
    clear hw2 hp
    (go_wp2_with fail; refine (HB.out _).mono ?_; rintro e_ w_ ⟨he_, hw_⟩; subst he_; have hs_ := hw_.symm; clear hw_; subst hs_)
    go_wp2_with fail
    refine (HR.out 4 _).mono ?_
    rintro e w3 ⟨rfl, hb3⟩
    have HX3 := hid (HX.out.below hb3)
    clear hb3 HX
    go_wp2_with (refine wpList_store_blk rfl 46 _ _ rfl p rfl (rsC 4 0 0) rfl HX3.out.b rfl I0.out (rsC_one _ _ _) ?_; intro w9 HB9 HU9)
    refine bodyPost_ret (results_blk (cs := (rsC 4 0 0)) Tryz.results118 rfl agg_rs HB9.out) rfl ?_
    exact ⟨rfl, hid (HX3.out.done HU9.out)⟩
  have d3 : decide (nd < 1) = false := decide_eq_false h3
  by_cases h4 : 32 < nd
  · as_aux_lemma =>
    rw [if_pos (by omega)]
    have d4 : decide (nd > 32) = true := decide_eq_true h4
    have d4' : decide (32 < nd) = true := decide_eq_true h4
    go_enter Tryz.func118, Tryz.ntmps118
    go_upto_region 1 with fail
    (try simp only [hp])
    generalize hw2 : w.alloc _ = w2 at HX ⊢
    clear hw2 hp
    (go_wp2_with fail; refine (HB.out _).mono ?_; rintro e_ w_ ⟨he_, hw_⟩; subst he_; have hs_ := hw_.symm; clear hw_; subst hs_)
    go_wp2_with fail
    refine (HR.out 4 _).mono ?_
    rintro e w3 ⟨rfl, hb3⟩
    have HX3 := hid (HX.out.below hb3)
    clear hb3 HX
    go_wp2_with (refine wpList_store_blk rfl 46 _ _ rfl p rfl (rsC 4 0 0) rfl HX3.out.b rfl I0.out (rsC_one _ _ _) ?_; intro w9 HB9 HU9)
    refine bodyPost_ret (results_blk (cs := (rsC 4 0 0)) Tryz.results118 rfl agg_rs HB9.out) rfl ?_
    exact ⟨rfl, hid (HX3.out.done HU9.out)⟩
  have d4 : decide (nd > 32) = false := decide_eq_false h4
  have d4' : decide (32 < nd) = false := decide_eq_false h4
  rw [if_neg (by omega)]
  as_aux_lemma =>
  obtain ⟨b, rfl⟩ : ∃ n : Nat, b = (n : Int) := ⟨b.toNat, by omega⟩
  rw [show ((b : Int)).toNat = b by omega]
  have hb : b < 64 := by omega
  obtain ⟨fn, hfn⟩ : ∃ n : Nat, (n : Int) = f := ⟨f.toNat, by omega⟩
  obtain ⟨nn, hnn⟩ : ∃ n : Nat, (n : Int) = nd := ⟨nd.toNat, by omega⟩
  rw [show f.toNat = fn by omega, show nd.toNat = nn by omega]
  have hnb : nn ≤ 32 ∧ fn ≤ 32 := by omega
  clear hc
  go_enter Tryz.func118, Tryz.ntmps118
  go_upto_region 1 with fail
  (try simp only [hp])
  generalize hw2 : w.alloc _ = w2 at HX ⊢
  clear hw2 hp
  (go_wp2_with fail; refine (HB.out _).mono ?_; rintro e_ w_ ⟨he_, hw_⟩; subst he_; have hs_ := hw_.symm; clear hw_; subst hs_)
  go_upto_region 6 with fail
  clear d1 d2 d2' d3 d4 d4' HB
  go_loopw [9] (fun u wr => wr = w2 ∧ ∃ q : Nat, u = .int .i64 (q : Int) ∧ fn ≤ q ∧ q ≤ 32 ∧ Hid (fhF E.T b fn nn (32 - fn) = fhF E.T b fn nn (32 - q))) (fun u _ => 32 - (intOf u).toNat)
  case atStart => exact ⟨rfl, fn, by rw [hfn], Nat.le_refl _, hnb.2, hid rfl⟩
  case round =>
  obtain ⟨hwr, q, rfl, hq0, hq, HI⟩ := hrel
  have hwr' := hwr.symm
  clear hwr
  subst hwr'
  by_cases hql : q < 32
  · have dq : decide ((q : Int) < 32) = true := decide_eq_true (by omega)
    have dqn : decide (q < 32) = true := decide_eq_true hql
    have HH := hid (haN HX.out.md.mm hb hq)
    have HS := hid (shM HX.out.md.mm hb hql hq0)
    rw [hfn] at HS
    have Hs : Hid (fhF E.T b fn nn (32 - fn) = if shB E.T b fn q = true ∧ nn ≤ hlN E.T b q then (q, hlN E.T b q) else fhF E.T b fn nn (32 - (q + 1))) := hid (by
      rw [HI.out, show 32 - q = (32 - (q + 1)) + 1 by omega]
      show (if shB E.T b fn (31 - (32 - (q + 1))) = true ∧ nn ≤ hlN E.T b (31 - (32 - (q + 1))) then (31 - (32 - (q + 1)), hlN E.T b (31 - (32 - (q + 1)))) else fhF E.T b fn nn (32 - (q + 1))) = _
      rw [show 31 - (32 - (q + 1)) = q by omega])
    have hhb : hlN E.T b q ≤ 32 := hlN_le
    generalize hlN E.T b q = x at *
    generalize shB E.T b fn q = sb at *
    clear HI
    cases sb with
    | false =>
      as_aux_lemma =>
      have Hs2 : Hid (fhF E.T b fn nn (32 - fn) = fhF E.T b fn nn (32 - (q + 1))) := hid (by rw [Hs.out, if_neg (by simp)])
      clear Hs
      (go_wp2_with fail; refine (HS.out).mono ?_; rintro e_ w_ ⟨he_, hw_⟩; subst he_; have hs_ := hw_.symm; clear hw_; subst hs_)
      go_wp2
      exact ⟨⟨by trivial, q + 1, by go_num, by omega, by omega, Hs2⟩, by simp [intOf]; omega⟩
    | true =>
      by_cases h0 : nd ≤ (x : Int)
      · as_aux_lemma =>
        have d0 : decide ((x : Int) ≥ nd) = true := decide_eq_true h0
        have d0' : decide (nd ≤ (x : Int)) = true := decide_eq_true h0
        have Hs2 : Hid (fhF E.T b fn nn (32 - fn) = (q, x)) := hid (by rw [Hs.out, if_pos ⟨rfl, by omega⟩])
        clear Hs
        (go_wp2_with fail; refine (HS.out).mono ?_; rintro e_ w_ ⟨he_, hw_⟩; subst he_; have hs_ := hw_.symm; clear hw_; subst hs_)
        (go_wp2_with fail; refine (HH.out).mono ?_; rintro e_ w_ ⟨he_, hw_⟩; subst he_; have hs_ := hw_.symm; clear hw_; subst hs_)
        (go_wp2_with fail; refine (HH.out).mono ?_; rintro e_ w_ ⟨he_, hw_⟩; subst he_; have hs_ := hw_.symm; clear hw_; subst hs_)
        go_wp2_with fail
        refine (ansM (q : Int) (x : Int) _).mono ?_
        rintro e w3 ⟨rfl, hb3⟩
        have HX3 := hid (HX.out.below hb3)
        clear hb3 HX
        go_wp2_with (refine wpList_store_blk rfl 46 _ _ rfl p rfl (rsC 0 (q : Int) (x : Int)) rfl HX3.out.b rfl I0.out (rsC_one _ _ _) ?_; intro w9 HB9 HU9)
        refine bodyPost_ret (results_blk (cs := (rsC 0 (q : Int) (x : Int))) Tryz.results118 rfl agg_rs HB9.out) rfl ?_
        exact ⟨by rw [Hs2.out], hid (HX3.out.done HU9.out)⟩
      · as_aux_lemma =>
        have d0 : decide ((x : Int) ≥ nd) = false := decide_eq_false h0
        have d0' : decide (nd ≤ (x : Int)) = false := decide_eq_false h0
        have Hs2 : Hid (fhF E.T b fn nn (32 - fn) = fhF E.T b fn nn (32 - (q + 1))) := hid (by rw [Hs.out, if_neg (by omega)])
        clear Hs
        (go_wp2_with fail; refine (HS.out).mono ?_; rintro e_ w_ ⟨he_, hw_⟩; subst he_; have hs_ := hw_.symm; clear hw_; subst hs_)
        (go_wp2_with fail; refine (HH.out).mono ?_; rintro e_ w_ ⟨he_, hw_⟩; subst he_; have hs_ := hw_.symm; clear hw_; subst hs_)
        go_wp2
        exact ⟨⟨by trivial, q + 1, by go_num, by omega, by omega, Hs2⟩, by simp [intOf]; omega⟩
  · as_aux_lemma =>
    have dq : decide ((q : Int) < 32) = false := decide_eq_false (by omega)
    have dqn : decide (q < 32) = false := decide_eq_false hql
    have Hs2 : Hid (fhF E.T b fn nn (32 - fn) = (32, 0)) := hid (by rw [HI.out, show 32 - q = 0 by omega]; rfl)
    clear HI
    go_wp2_with fail
    refine (ansM 32 0 _).mono ?_
    rintro e w3 ⟨rfl, hb3⟩
    have HX3 := hid (HX.out.below hb3)
    clear hb3 HX
    go_wp2_with (refine wpList_store_blk rfl 46 _ _ rfl p rfl (rsC 0 32 0) rfl HX3.out.b rfl I0.out (rsC_one _ _ _) ?_; intro w9 HB9 HU9)
    refine bodyPost_ret (results_blk (cs := (rsC 0 32 0)) Tryz.results118 rfl agg_rs HB9.out) rfl ?_
    exact ⟨by rw [Hs2.out]; rfl, hid (HX3.out.done HU9.out)⟩
end
end Go.Proofs.Qxb6500887aGreat
