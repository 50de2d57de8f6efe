/- The model's steps: eachField. -/
import Derived.Test.Qxb6500887aGreatAyS
import Derived.Deep.DeepCutAuto
namespace Go.Proofs.Qxb6500887aGreat
open Go.RowKit
set_option linter.unusedSimpArgs false
set_option linter.unusedVariables false
section
variable {l : ML} {E E' : ES} {w w' w0 w3 w4 : World} {p : Nat}
/-- How many are visited of n, at most mo but at least one. -/
def visN (n mo : Nat) : Nat := min n (max 1 mo)
def efT (W : Nat → Nat) (f : Nat) : Nat → Nat
  | 0 => 0
  | q + 1 => (efT W f q + (q + (65536 + (f + q)) + W (f + q)) % 18446744073709551616) % 18446744073709551616
theorem efT_lt (W : Nat → Nat) (f : Nat) : ∀ q, efT W f q < 18446744073709551616
  | 0 => by show 0 < _; decide
  | q + 1 => Nat.mod_lt _ (by decide)
open Classical in
noncomputable def efR (W : Nat → Nat) (a : Int) (mo : Nat) : List Value := if onE W a = 0 then (if rfAllW W (2 * gIx a + 1) (visN (decRefs (W (2 * gIx a))).toNat mo) then rsC 0 ((visN (decRefs (W (2 * gIx a))).toNat mo : Nat) : Int) ((efT W (2 * gIx a + 1) (visN (decRefs (W (2 * gIx a))).toNat mo) : Nat) : Int) else rsC 9 0 0) else rsC (onE W a) 0 0
set_option maxRecDepth 100000 in
set_option maxHeartbeats 4000000 in
theorem eachFieldM (h : MM l E w) (a : Int) (mo : Nat) (hmo : mo < 18446744073709551616) : Calls Tryz.prog 104 #[.pointer (some ⟨l.m, 0, none⟩), .int .u64 a, .int .u64 (mo : Int)] w fun e w' => e = .returned (.agg (efR E.W a mo).toArray) ∧ Hid (MD w l E w') := by
  have I0 := hid info_rs
  have HR := hid (fun (c : Int) (wz : World) => refM c wz)
  have HP := hid (fun wz (hz : MM l E wz) => opM hz a)
  obtain ⟨p, hp⟩ : ∃ p, w.heap.size = p := ⟨_, rfl⟩
  have HX := hid (MX.start h hp)
  dsimp only [rsC, rsT] at HX
  clear h
  unfold efR
  unfold owR at HP
  by_cases hc : onE E.W a = 0
  rotate_left
  · as_aux_lemma =>
    rw [if_neg hc]
    rw [if_neg hc] at HP
    generalize onE E.W a = c at *
    have dc : (c != 0) = true := by simpa using hc
    have dc' : (c == 0) = false := by simpa using hc
    go_enter Tryz.func104, Tryz.ntmps104
    go_upto_region 1 with fail
    (try simp only [hp])
    generalize hw2 : w.alloc _ = w2 at HX ⊢
    clear hw2 hp
    (go_wp2_with fail; refine (HP.out _ HX.out.md.mm).mono ?_; rintro e_ w_ ⟨he_, hw_⟩; subst he_; have hs_ := hw_.symm; clear hw_; subst hs_)
    go_wp2_with fail
    refine (HR.out c _).mono ?_
    rintro e w3 ⟨rfl, hb3⟩
    have HX3 := hid (HX.out.below hb3)
    clear hb3 HX
    go_wp2_with (refine wpList_store_blk rfl 46 _ _ rfl p rfl (rsC c 0 0) rfl HX3.out.b rfl I0.out (rsC_one _ _ _) ?_; intro w9 HB9 HU9)
    refine bodyPost_ret (results_blk (cs := (rsC c 0 0)) Tryz.results104 rfl agg_rs HB9.out) rfl ?_
    exact ⟨rfl, hid (HX3.out.done HU9.out)⟩
  as_aux_lemma =>
  rw [if_pos hc]
  rw [if_pos hc] at HP
  obtain ⟨b0, b1, b2, b3, b4, b5, b6⟩ := onE_ok hc
  obtain ⟨n, hn⟩ : ∃ n : Nat, decRefs (E.W (2 * gIx a)) = (n : Int) := ⟨(decRefs (E.W (2 * gIx a))).toNat, by omega⟩
  rw [hn] at HP b4 b5 ⊢
  rw [show ((n : Int)).toNat = n by omega]
  generalize decSize (E.W (2 * gIx a)) = sz at *
  generalize 2 * gIx a = k at *
  have hkb : k + 1 + n ≤ 32768 := by omega
  clear hc b0 b1 b4 b5 b6 hn b2 b3
  obtain ⟨f, hf⟩ : ∃ f, k + 1 = f := ⟨_, rfl⟩
  rw [hf]
  obtain ⟨R, hR⟩ : ∃ R, (@ite _ (rfAllW E.W f (visN n mo)) (Classical.propDecidable _) (rsC 0 ((visN n mo : Nat) : Int) ((efT E.W f (visN n mo) : Nat) : Int)) (rsC 9 0 0)) = R := ⟨_, rfl⟩
  rw [hR]
  have HRR := hid hR
  clear hR
  go_enter Tryz.func104, Tryz.ntmps104
  go_upto_region 1 with fail
  (try simp only [hp])
  generalize hw2 : w.alloc _ = w2 at HX ⊢
  clear hw2 hp
  (go_wp2_with fail; refine (HP.out _ HX.out.md.mm).mono ?_; rintro e_ w_ ⟨he_, hw_⟩; subst he_; have hs_ := hw_.symm; clear hw_; subst hs_)
  go_upto_region 6 with fail
  clear HP
  go_loopw [11, 12, 13] (fun t s u wr => wr = w2 ∧ ∃ q : Nat, u = .int .i64 (q : Int) ∧ t = .int .u64 (q : Int) ∧ s = .int .u64 ((efT E.W f q : Nat) : Int) ∧ q ≤ n ∧ (q = 0 ∨ q < mo) ∧ Hid (rfAllW E.W f q)) (fun _ _ u _ => 32768 - (intOf u).toNat)
  case atStart => exact ⟨rfl, 0, rfl, rfl, rfl, Nat.zero_le _, .inl rfl, hid (fun i hi => by omega)⟩
  case round =>
  obtain ⟨hwr, q, rfl, rfl, rfl, hq, hqm, HI⟩ := hrel
  have hwr' := hwr.symm
  clear hwr
  subst hwr'
  have hS := efT_lt E.W f q
  by_cases hql : q < n
  · have dq : decide ((q : Int) < (n : Int)) = true := decide_eq_true (by omega)
    have dqn : decide (q < n) = true := decide_eq_true hql
    have c0 := HX.out.md.mm.cells.1
    obtain ⟨y, hy⟩ : ∃ y, f + q = y := ⟨_, rfl⟩
    have ey : (k : Int) + 1 + (q : Int) = (y : Int) := by omega
    have hy2 : y < 32768 := by omega
    have cz := HX.out.md.mm.word hy2
    obtain ⟨x, hx⟩ : ∃ x, E.W y = x := ⟨_, rfl⟩
    have hxb : x < 18446744073709551616 := by rw [← hx]; exact HX.out.md.mm.wl y
    have Hx : Hid (E.W (f + q) = x) := hid (by rw [hy]; exact hx)
    have Hst : Hid (efT E.W f (q + 1) = (efT E.W f q + (q + (65536 + y) + x) % 18446744073709551616) % 18446744073709551616) := hid (by rw [← hx, ← hy]; rfl)
    rw [hx] at cz
    have HI2 := hid (fun wz => refOkM (x : Int) wz)
    have HAd := hid (fun wz => adrM y (by omega) wz)
    clear hx
    by_cases hr : rfOk (x : Int)
    rotate_left
    · as_aux_lemma =>
      rw [decide_eq_false hr] at HI2
      have HR2 : Hid (R = rsC 9 0 0) := hid (by
        rw [← HRR.out, if_neg]
        intro ha
        have := ha q (by unfold visN; omega)
        rw [Hx.out] at this
        exact hr this)
      clear HRR HI hr Hx Hst
      (go_wp2_with fail; refine (HI2.out _).mono ?_; rintro e_ w_ ⟨he_, hw_⟩; subst he_; have hs_ := hw_.symm; clear hw_; subst hs_)
      go_wp2_with fail
      refine (HR.out 9 _).mono ?_
      rintro e w3 ⟨rfl, hb3⟩
      have HX3 := hid (HX.out.below hb3)
      clear hb3 HX
      go_wp2_with (refine wpList_store_blk rfl 46 _ _ rfl p rfl (rsC 9 0 0) rfl HX3.out.b rfl I0.out (rsC_one _ _ _) ?_; intro w9 HB9 HU9)
      refine bodyPost_ret (results_blk (cs := (rsC 9 0 0)) Tryz.results104 rfl agg_rs HB9.out) rfl ?_
      exact ⟨by rw [HR2.out], hid (HX3.out.done HU9.out)⟩
    rw [decide_eq_true hr] at HI2
    have HN : Hid (rfAllW E.W f (q + 1)) := hid (fun j hj => by
      by_cases e : j = q
      · rw [e, Hx.out]; exact hr
      · exact HI.out j (by omega))
    clear HI hr Hx
    obtain ⟨S0, hS0⟩ : ∃ S0, efT E.W f q = S0 := ⟨_, rfl⟩
    rw [hS0] at Hst hS ⊢
    clear hS0
    obtain ⟨ad, had⟩ : ∃ ad, 65536 + y = ad := ⟨_, rfl⟩
    rw [had] at HAd Hst
    have hadb : ad ≤ 100000 := by omega
    obtain ⟨a1, ha1⟩ : ∃ a1, q + ad = a1 := ⟨_, rfl⟩
    rw [ha1] at Hst
    have ea1 : (q : Int) + (ad : Int) = (a1 : Int) := by omega
    have ha1b : a1 ≤ 200000 := by omega
    obtain ⟨a2, ha2⟩ : ∃ a2, (a1 + x) % 18446744073709551616 = a2 := ⟨_, rfl⟩
    have ew2 : IntKind.u64.wrap ((a1 : Int) + (x : Int)) = (a2 : Int) := by rw [IntKind.wrap_u64]; omega
    rw [ha2] at Hst
    have ha2b : a2 < 18446744073709551616 := by omega
    obtain ⟨S, hSS⟩ : ∃ S, (S0 + a2) % 18446744073709551616 = S := ⟨_, rfl⟩
    have ew3 : IntKind.u64.wrap ((S0 : Int) + (a2 : Int)) = (S : Int) := by rw [IntKind.wrap_u64]; omega
    rw [hSS] at Hst
    clear had ha1 ha2 hSS hy
    obtain ⟨V, hV⟩ : ∃ V, q + 1 = V := ⟨_, rfl⟩
    have eV : (q : Int) + 1 = (V : Int) := by omega
    have hVb : V ≤ 40000 := by omega
    by_cases hmV : mo ≤ V
    · as_aux_lemma =>
      have dm : decide ((V : Int) ≥ (mo : Int)) = true := decide_eq_true (by omega)
      have dm' : decide ((mo : Int) ≤ (V : Int)) = true := decide_eq_true (by omega)
      have HR2 : Hid (R = rsC 0 (V : Int) (S : Int)) := hid (by
        have e : visN n mo = q + 1 := by unfold visN; omega
        rw [← HRR.out, e, if_pos HN.out, Hst.out, hV])
      clear HRR HN Hst
      (go_wp2_with fail; refine (HI2.out _).mono ?_; rintro e_ w_ ⟨he_, hw_⟩; subst he_; have hs_ := hw_.symm; clear hw_; subst hs_)
      (go_wp2_with fail; refine (HAd.out _).mono ?_; rintro e_ w_ ⟨he_, hw_⟩; subst he_; have hs_ := hw_.symm; clear hw_; subst hs_)
      go_wp2_with fail
      refine (ansM (V : Int) (S : Int) _).mono ?_
      rintro e w3 ⟨rfl, hb3⟩
      have HX3 := hid (HX.out.below hb3)
      clear hb3 HX
      go_wp2_with (refine wpList_store_blk rfl 46 _ _ rfl p rfl (rsC 0 (V : Int) (S : Int)) rfl HX3.out.b rfl I0.out (rsC_one _ _ _) ?_; intro w9 HB9 HU9)
      refine bodyPost_ret (results_blk (cs := (rsC 0 (V : Int) (S : Int))) Tryz.results104 rfl agg_rs HB9.out) rfl ?_
      exact ⟨by rw [HR2.out], hid (HX3.out.done HU9.out)⟩
    · as_aux_lemma =>
      have dm : decide ((V : Int) ≥ (mo : Int)) = false := decide_eq_false (by omega)
      have dm' : decide ((mo : Int) ≤ (V : Int)) = false := decide_eq_false (by omega)
      have HV := hid hV
      clear HRR
      (go_wp2_with fail; refine (HI2.out _).mono ?_; rintro e_ w_ ⟨he_, hw_⟩; subst he_; have hs_ := hw_.symm; clear hw_; subst hs_)
      (go_wp2_with fail; refine (HAd.out _).mono ?_; rintro e_ w_ ⟨he_, hw_⟩; subst he_; have hs_ := hw_.symm; clear hw_; subst hs_)
      go_wp2
      exact ⟨⟨by trivial, q + 1, by rw [HV.out], by rw [HV.out], by rw [Hst.out], by omega, .inr (by omega), HN⟩, by simp [intOf]; omega⟩
  · as_aux_lemma =>
    have dq : decide ((q : Int) < (n : Int)) = false := decide_eq_false (by omega)
    have dqn : decide (q < n) = false := decide_eq_false hql
    obtain ⟨S, hSS⟩ : ∃ S, efT E.W f q = S := ⟨_, rfl⟩
    obtain ⟨V, hVV⟩ : ∃ V, q = V := ⟨_, rfl⟩
    have HR2 : Hid (R = rsC 0 (V : Int) (S : Int)) := hid (by
      have e : visN n mo = q := by unfold visN; omega
      rw [← HRR.out, e, if_pos HI.out, hSS, hVV])
    rw [hSS] at hS ⊢
    subst hVV
    clear HRR HI hSS
    go_wp2_with fail
    refine (ansM (q : Int) (S : Int) _).mono ?_
    rintro e w3 ⟨rfl, hb3⟩
    have HX3 := hid (HX.out.below hb3)
    clear hb3 HX
    go_wp2_with (refine wpList_store_blk rfl 46 _ _ rfl p rfl (rsC 0 (q : Int) (S : Int)) rfl HX3.out.b rfl I0.out (rsC_one _ _ _) ?_; intro w9 HB9 HU9)
    refine bodyPost_ret (results_blk (cs := (rsC 0 (q : Int) (S : Int))) Tryz.results104 rfl agg_rs HB9.out) rfl ?_
    exact ⟨by rw [HR2.out], hid (HX3.out.done HU9.out)⟩
end
end Go.Proofs.Qxb6500887aGreat
