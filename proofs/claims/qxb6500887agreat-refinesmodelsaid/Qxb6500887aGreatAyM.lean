/- The model's steps: scanSome, ownerOf. -/
import Derived.Test.Qxb6500887aGreatAyL
import Derived.Deep.DeepCutAuto
namespace Go.Proofs.Qxb6500887aGreat
open Go.RowKit
set_option linter.unusedSimpArgs false
set_option linter.unusedVariables false
section
variable {l : ML} {E E' : ES} {w w' w0 w3 w4 : World} {p : Nat}
theorem scR_len (W : Nat → Nat) (k n : Nat) (u : Option Int) : (scR W k n u).length = 35 := by unfold scR; split <;> rfl
theorem scR_one (W : Nat → Nat) (k n : Nat) (u : Option Int) : ∀ x ∈ scR W k n u, x.oneCell' = true := by
  unfold scR
  split
  · exact rsC_one _ _ _
  · exact rsC_one _ _ _
/-- Where a scan of at most mo fields ends. -/
def ssT (rf fr mo : Int) : Int := if mo < rf ∧ fr + mo < rf then fr + mo else rf
noncomputable def ssR (W : Nat → Nat) (a fr mo : Int) : List Value := if onE W a = 0 then (if 0 ≤ fr ∧ fr ≤ decRefs (W (2 * gIx a)) then (if mo < 1 then rsC 4 0 0 else scR W (2 * gIx a + 1 + fr.toNat) ((ssT (decRefs (W (2 * gIx a))) fr mo).toNat - fr.toNat) (some (ssT (decRefs (W (2 * gIx a))) fr mo))) else rsC 8 0 0) else rsC (onE W a) 0 0
def lastNz (C : Nat → Nat) : Nat → Option Nat
  | 0 => none
  | g + 1 => if C g = 0 then lastNz C g else some g
def owE (E : ES) (a : Int) : List Value := if wantW a = 0 then (match lastNz E.C (wIx a / 2 + 1) with
  | none => rsC 8 0 0
  | some g => if opW E.W g = 0 then (if 2 * (g : Int) + decSize (E.W (2 * g)) < ((wIx a : Nat) : Int) then rsC 8 0 0 else rsC 0 ((65536 + 2 * g : Nat) : Int) 0) else rsC (opW E.W g) 0 0) else rsC (wantW a) 0 0
set_option maxRecDepth 100000 in
set_option maxHeartbeats 2000000 in
theorem scanSomeM (h : MM l E w) (a fr mo : Int) (hmo : mo < 9223372036854775808) : Calls Tryz.prog 103 #[.pointer (some ⟨l.m, 0, none⟩), .int .u64 a, .int .i64 fr, .int .i64 mo] w fun e w' => e = .returned (.agg (ssR E.W a fr mo).toArray) ∧ Hid (MD w l E w') := by
  have I0 := hid info_rs
  have HR := hid (fun (c : Int) (wz : World) => refM c wz)
  have HP := hid (fun wz (hz : MM l E wz) => opM hz a)
  obtain ⟨p, hp⟩ : ∃ p, w.heap.size = p := ⟨_, rfl⟩
  have HX := hid (MX.start h hp)
  dsimp only [rsC, rsT] at HX
  clear h
  unfold ssR
  unfold owR at HP
  by_cases hc : onE E.W a = 0
  rotate_left
  · as_aux_lemma =>
    rw [if_neg hc]
    rw [if_neg hc] at HP
    generalize onE E.W a = c at *
    have dc : (c != 0) = true := by simpa using hc
    have dc' : (c == 0) = false := by simpa using hc
    go_enter Tryz.func103, Tryz.ntmps103
    go_upto_region 1 with fail
    (try simp only [hp])
    generalize hw2 : w.alloc _ = w2 at HX ⊢
    clear hw2 hp
    (go_wp2_with fail; refine (HP.out _ HX.out.md.mm).mono ?_; rintro e_ w_ ⟨he_, hw_⟩; subst he_; have hs_ := hw_.symm; clear hw_; subst hs_)
    go_wp2_with fail
    refine (HR.out c _).mono ?_
    rintro e w3 ⟨rfl, hb3⟩
    have HX3 := hid (HX.out.below hb3)
    clear hb3 HX
    go_wp2_with (refine wpList_store_blk rfl 46 _ _ rfl p rfl (rsC c 0 0) rfl HX3.out.b rfl I0.out (rsC_one _ _ _) ?_; intro w9 HB9 HU9)
    refine bodyPost_ret (results_blk (cs := (rsC c 0 0)) Tryz.results103 rfl agg_rs HB9.out) rfl ?_
    exact ⟨rfl, hid (HX3.out.done HU9.out)⟩
  rw [if_pos hc]
  rw [if_pos hc] at HP
  obtain ⟨b0, b1, b2, b3, b4, b5, b6⟩ := onE_ok hc
  obtain ⟨q1, q2⟩ := wantO_ok b0
  obtain ⟨g1, g2, g3⟩ := gIx_of b0
  obtain ⟨rf, hrf⟩ : ∃ rf : Nat, decRefs (E.W (2 * gIx a)) = (rf : Int) := ⟨(decRefs (E.W (2 * gIx a))).toNat, by omega⟩
  rw [hrf] at HP b4 b5 ⊢
  have HS := hid (fun wz (hz : MM l E wz) (f t : Nat) (h1 : f ≤ t) (h2 : wIx a + 1 + t ≤ 32768) => scanM hz a q1 f t h1 h2 false)
  rw [← g3] at HS
  generalize decSize (E.W (2 * gIx a)) = sz at *
  generalize 2 * gIx a = k at *
  have hkb : k + 1 + rf ≤ 32768 := by omega
  clear hc b0 b1 b4 b5 b6 g1 g2 g3 q1 q2 hrf
  by_cases h1 : fr < 0
  · as_aux_lemma =>
    have d1 : decide (fr < 0) = true := decide_eq_true h1
    rw [if_neg (by omega)]
    go_enter Tryz.func103, Tryz.ntmps103
    go_upto_region 1 with fail
    (try simp only [hp])
    generalize hw2 : w.alloc _ = w2 at HX ⊢
    clear hw2 hp
    (go_wp2_with fail; refine (HP.out _ HX.out.md.mm).mono ?_; rintro e_ w_ ⟨he_, hw_⟩; subst he_; have hs_ := hw_.symm; clear hw_; subst hs_)
    go_wp2_with fail
    refine (HR.out 8 _).mono ?_
    rintro e w3 ⟨rfl, hb3⟩
    have HX3 := hid (HX.out.below hb3)
    clear hb3 HX
    go_wp2_with (refine wpList_store_blk rfl 46 _ _ rfl p rfl (rsC 8 0 0) rfl HX3.out.b rfl I0.out (rsC_one _ _ _) ?_; intro w9 HB9 HU9)
    refine bodyPost_ret (results_blk (cs := (rsC 8 0 0)) Tryz.results103 rfl agg_rs HB9.out) rfl ?_
    exact ⟨rfl, hid (HX3.out.done HU9.out)⟩
  have d1 : decide (fr < 0) = false := decide_eq_false h1
  by_cases h2 : fr > (rf : Int)
  · as_aux_lemma =>
    have d2 : decide (fr > (rf : Int)) = true := decide_eq_true h2
    have d2' : decide ((rf : Int) < fr) = true := decide_eq_true h2
    rw [if_neg (by omega)]
    go_enter Tryz.func103, Tryz.ntmps103
    go_upto_region 1 with fail
    (try simp only [hp])
    generalize hw2 : w.alloc _ = w2 at HX ⊢
    clear hw2 hp
    (go_wp2_with fail; refine (HP.out _ HX.out.md.mm).mono ?_; rintro e_ w_ ⟨he_, hw_⟩; subst he_; have hs_ := hw_.symm; clear hw_; subst hs_)
    go_wp2_with fail
    refine (HR.out 8 _).mono ?_
    rintro e w3 ⟨rfl, hb3⟩
    have HX3 := hid (HX.out.below hb3)
    clear hb3 HX
    go_wp2_with (refine wpList_store_blk rfl 46 _ _ rfl p rfl (rsC 8 0 0) rfl HX3.out.b rfl I0.out (rsC_one _ _ _) ?_; intro w9 HB9 HU9)
    refine bodyPost_ret (results_blk (cs := (rsC 8 0 0)) Tryz.results103 rfl agg_rs HB9.out) rfl ?_
    exact ⟨rfl, hid (HX3.out.done HU9.out)⟩
  have d2 : decide (fr > (rf : Int)) = false := decide_eq_false h2
  have d2' : decide ((rf : Int) < fr) = false := decide_eq_false h2
  rw [if_pos (by omega)]
  by_cases h3 : mo < 1
  · as_aux_lemma =>
    have d3 : decide (mo < 1) = true := decide_eq_true h3
    rw [if_pos h3]
    go_enter Tryz.func103, Tryz.ntmps103
    go_upto_region 1 with fail
    (try simp only [hp])
    generalize hw2 : w.alloc _ = w2 at HX ⊢
    clear hw2 hp
    (go_wp2_with fail; refine (HP.out _ HX.out.md.mm).mono ?_; rintro e_ w_ ⟨he_, hw_⟩; subst he_; have hs_ := hw_.symm; clear hw_; subst hs_)
    go_wp2_with fail
    refine (HR.out 4 _).mono ?_
    rintro e w3 ⟨rfl, hb3⟩
    have HX3 := hid (HX.out.below hb3)
    clear hb3 HX
    go_wp2_with (refine wpList_store_blk rfl 46 _ _ rfl p rfl (rsC 4 0 0) rfl HX3.out.b rfl I0.out (rsC_one _ _ _) ?_; intro w9 HB9 HU9)
    refine bodyPost_ret (results_blk (cs := (rsC 4 0 0)) Tryz.results103 rfl agg_rs HB9.out) rfl ?_
    exact ⟨rfl, hid (HX3.out.done HU9.out)⟩
  have d3 : decide (mo < 1) = false := decide_eq_false h3
  rw [if_neg h3]
  obtain ⟨te, ht⟩ : ∃ te, ssT (rf : Int) fr mo = te := ⟨_, rfl⟩
  rw [ht]
  have htb : fr ≤ te ∧ te ≤ (rf : Int) := by unfold ssT at ht; split at ht <;> omega
  obtain ⟨rs, hrs⟩ : ∃ rs, scR E.W (k + 1 + fr.toNat) (te.toNat - fr.toNat) (some te) = rs := ⟨_, rfl⟩
  have hl : rs.length = 35 := by rw [← hrs]; exact scR_len _ _ _ _
  have ho : ∀ x ∈ rs, x.oneCell' = true := by rw [← hrs]; exact scR_one _ _ _ _
  have HS2 : Hid (∀ wz, MM l E wz → Calls Tryz.prog 102 #[.pointer (some ⟨l.m, 0, none⟩), .int .u64 a, .int .i64 fr, .int .i64 te, .bool false] wz fun e w' => e = .returned (.agg rs.toArray) ∧ Hid (MD wz l E w')) := hid (fun wz hz => by
    have := HS.out wz hz fr.toNat te.toNat (by omega) (by omega)
    rw [show ((fr.toNat : Nat) : Int) = fr by omega, show ((te.toNat : Nat) : Int) = te by omega, show (if false = true then none else some te) = some te from rfl, hrs] at this
    exact this)
  rw [hrs]
  have Hl := hid hl
  have Ho := hid ho
  clear hrs hl ho HS
  unfold ssT at ht
  by_cases h4 : mo < (rf : Int)
  · have d4 : decide (mo < (rf : Int)) = true := decide_eq_true h4
    obtain ⟨y, hy⟩ : ∃ y, fr + mo = y := ⟨_, rfl⟩
    have hyb : 0 ≤ y ∧ y ≤ 70000 := by omega
    by_cases h5 : y < (rf : Int)
    · as_aux_lemma =>
      have d5 : decide (y < (rf : Int)) = true := decide_eq_true h5
      have et : y = te := by rw [if_pos (by omega)] at ht; omega
      subst et
      clear ht
      go_enter Tryz.func103, Tryz.ntmps103
      go_upto_region 1 with fail
      (try simp only [hp])
      generalize hw2 : w.alloc _ = w2 at HX ⊢
      clear hw2 hp
      (go_wp2_with fail; refine (HP.out _ HX.out.md.mm).mono ?_; rintro e_ w_ ⟨he_, hw_⟩; subst he_; have hs_ := hw_.symm; clear hw_; subst hs_)
      go_wp2_with fail
      refine (HS2.out _ HX.out.md.mm).mono ?_
      rintro e w3 ⟨rfl, hd3⟩
      have HX3 := hid (HX.out.step hd3.out)
      clear hd3 HX
      go_wp2_with (refine wpList_store_blk rfl 46 _ _ rfl p rfl rs rfl HX3.out.b (by rw [Hl.out]; rfl) (by rw [Hl.out]; exact I0.out) Ho.out ?_; intro w9 HB9 HU9)
      refine bodyPost_ret (results_blk (cs := rs) Tryz.results103 rfl (by rw [Hl.out]; exact agg_rs) HB9.out) rfl ?_
      exact ⟨rfl, hid (HX3.out.done HU9.out)⟩
    · as_aux_lemma =>
      have d5 : decide (y < (rf : Int)) = false := decide_eq_false h5
      have et : (rf : Int) = te := by rw [if_neg (by omega)] at ht; omega
      subst et
      clear ht
      go_enter Tryz.func103, Tryz.ntmps103
      go_upto_region 1 with fail
      (try simp only [hp])
      generalize hw2 : w.alloc _ = w2 at HX ⊢
      clear hw2 hp
      (go_wp2_with fail; refine (HP.out _ HX.out.md.mm).mono ?_; rintro e_ w_ ⟨he_, hw_⟩; subst he_; have hs_ := hw_.symm; clear hw_; subst hs_)
      go_wp2_with fail
      refine (HS2.out _ HX.out.md.mm).mono ?_
      rintro e w3 ⟨rfl, hd3⟩
      have HX3 := hid (HX.out.step hd3.out)
      clear hd3 HX
      go_wp2_with (refine wpList_store_blk rfl 46 _ _ rfl p rfl rs rfl HX3.out.b (by rw [Hl.out]; rfl) (by rw [Hl.out]; exact I0.out) Ho.out ?_; intro w9 HB9 HU9)
      refine bodyPost_ret (results_blk (cs := rs) Tryz.results103 rfl (by rw [Hl.out]; exact agg_rs) HB9.out) rfl ?_
      exact ⟨rfl, hid (HX3.out.done HU9.out)⟩
  · as_aux_lemma =>
    have d4 : decide (mo < (rf : Int)) = false := decide_eq_false h4
    have et : (rf : Int) = te := by rw [if_neg (by omega)] at ht; omega
    subst et
    clear ht
    go_enter Tryz.func103, Tryz.ntmps103
    go_upto_region 1 with fail
    (try simp only [hp])
    generalize hw2 : w.alloc _ = w2 at HX ⊢
    clear hw2 hp
    (go_wp2_with fail; refine (HP.out _ HX.out.md.mm).mono ?_; rintro e_ w_ ⟨he_, hw_⟩; subst he_; have hs_ := hw_.symm; clear hw_; subst hs_)
    go_wp2_with fail
    refine (HS2.out _ HX.out.md.mm).mono ?_
    rintro e w3 ⟨rfl, hd3⟩
    have HX3 := hid (HX.out.step hd3.out)
    clear hd3 HX
    go_wp2_with (refine wpList_store_blk rfl 46 _ _ rfl p rfl rs rfl HX3.out.b (by rw [Hl.out]; rfl) (by rw [Hl.out]; exact I0.out) Ho.out ?_; intro w9 HB9 HU9)
    refine bodyPost_ret (results_blk (cs := rs) Tryz.results103 rfl (by rw [Hl.out]; exact agg_rs) HB9.out) rfl ?_
    exact ⟨rfl, hid (HX3.out.done HU9.out)⟩
set_option maxRecDepth 100000 in
set_option maxHeartbeats 2000000 in
theorem ownerOfM (h : MM l E w) (a : Int) : Calls Tryz.prog 105 #[.pointer (some ⟨l.m, 0, none⟩), .int .u64 a] w fun e w' => e = .returned (.agg (owE E a).toArray) ∧ Hid (MD w l E w') := by
  have I0 := hid info_rs
  have HR := hid (fun (c : Int) (wz : World) => refM c wz)
  have HW := hid (fun wz => ckwM a wz)
  obtain ⟨p, hp⟩ : ∃ p, w.heap.size = p := ⟨_, rfl⟩
  have HX := hid (MX.start h hp)
  dsimp only [rsC, rsT] at HX
  clear h
  obtain ⟨R, hR⟩ : ∃ R, owE E a = R := ⟨_, rfl⟩
  rw [hR]
  unfold owE at hR
  by_cases hz : wantW a = 0
  rotate_left
  · as_aux_lemma =>
    rw [if_neg hz] at hR
    rw [← hR]
    generalize wantW a = cd at *
    have dc : (cd != 0) = true := by simpa using hz
    have dc' : (cd == 0) = false := by simpa using hz
    clear hR
    go_enter Tryz.func105, Tryz.ntmps105
    go_upto_region 1 with fail
    (try simp only [hp])
    generalize hw2 : w.alloc _ = w2 at HX ⊢
    clear hw2 hp
    (go_wp2_with fail; refine (HW.out _).mono ?_; rintro e_ w_ ⟨he_, hw_⟩; subst he_; have hs_ := hw_.symm; clear hw_; subst hs_)
    go_wp2_with fail
    refine (HR.out cd _).mono ?_
    rintro e w3 ⟨rfl, hb3⟩
    have HX3 := hid (HX.out.below hb3)
    clear hb3 HX
    go_wp2_with (refine wpList_store_blk rfl 46 _ _ rfl p rfl (rsC cd 0 0) rfl HX3.out.b rfl I0.out (rsC_one _ _ _) ?_; intro w9 HB9 HU9)
    refine bodyPost_ret (results_blk (cs := (rsC cd 0 0)) Tryz.results105 rfl agg_rs HB9.out) rfl ?_
    exact ⟨rfl, hid (HX3.out.done HU9.out)⟩
  as_aux_lemma =>
  rw [if_pos hz] at hR
  rw [hz] at HW
  have hi : InH a := by
    by_cases hi : InH a
    · exact hi
    · unfold wantW at hz; rw [if_neg hi] at hz; exact absurd hz (by decide)
  obtain ⟨g1, g2⟩ := wIx_of hi
  have HO := hid (fun wz => wofM' a hi.1 (by have := hi.2; omega) wz)
  rw [← g1] at HO
  generalize wIx a = k at *
  clear g1 hi hz
  obtain ⟨g, hg⟩ : ∃ g, k / 2 = g := ⟨_, rfl⟩
  have eg : (k : Int).tdiv 2 = (g : Int) := by rw [Int.tdiv_eq_ediv_of_nonneg (by omega)]; omega
  have eg' : (k : Int) / 2 = (g : Int) := by omega
  have hg2 : g < 16384 := by omega
  rw [hg] at hR
  have HRR := hid hR
  clear hg hR
  go_enter Tryz.func105, Tryz.ntmps105
  go_upto_region 1 with fail
  (try simp only [hp])
  generalize hw2 : w.alloc _ = w2 at HX ⊢
  clear hw2 hp
  (go_wp2_with fail; refine (HW.out _).mono ?_; rintro e_ w_ ⟨he_, hw_⟩; subst he_; have hs_ := hw_.symm; clear hw_; subst hs_)
  (go_wp2_with fail; refine (HO.out _).mono ?_; rintro e_ w_ ⟨he_, hw_⟩; subst he_; have hs_ := hw_.symm; clear hw_; subst hs_)
  go_upto_region 5 with fail
  go_loopw [6] (fun u wr => wr = w2 ∧ ∃ n : Nat, u = .int .i64 ((n : Int) - 1) ∧ n ≤ 16384 ∧ Hid (lastNz E.C (g + 1) = lastNz E.C n)) (fun u _ => (intOf u + 1).toNat)
  case atStart => exact ⟨rfl, g + 1, by show Value.int .i64 (g : Int) = _; congr 1; omega, by omega, hid rfl⟩
  case round =>
  obtain ⟨hwr, n, rfl, hn, HL⟩ := hrel
  have hwr' := hwr.symm
  clear hwr
  subst hwr'
  cases n with
  | zero =>
    as_aux_lemma =>
    have HR2 : Hid (R = rsC 8 0 0) := hid (by rw [← HRR.out, HL.out]; rfl)
    have d0 : decide (((0 : Nat) : Int) - 1 ≥ 0) = false := decide_eq_false (by omega)
    rw [show (((0 : Nat) : Int) - 1) = -1 by omega]
    go_wp2_with fail
    refine (HR.out 8 _).mono ?_
    rintro e w3 ⟨rfl, hb3⟩
    have HX3 := hid (HX.out.below hb3)
    clear hb3 HX
    go_wp2_with (refine wpList_store_blk rfl 46 _ _ rfl p rfl (rsC 8 0 0) rfl HX3.out.b rfl I0.out (rsC_one _ _ _) ?_; intro w9 HB9 HU9)
    refine bodyPost_ret (results_blk (cs := (rsC 8 0 0)) Tryz.results105 rfl agg_rs HB9.out) rfl ?_
    exact ⟨by rw [HR2.out], hid (HX3.out.done HU9.out)⟩
  | succ n =>
    rw [show (((n + 1 : Nat) : Int) - 1) = (n : Int) by omega]
    have d0 : decide ((n : Int) ≥ 0) = true := decide_eq_true (by omega)
    have d0' : decide (0 ≤ (n : Int)) = true := decide_eq_true (by omega)
    have c1 := HX.out.md.mm.cells.2.1
    have hn2 : n < 16384 := by omega
    have cz := HX.out.md.mm.count hn2
    have HLs : Hid (lastNz E.C (n + 1) = if E.C n = 0 then lastNz E.C n else some n) := hid rfl
    obtain ⟨x, hx⟩ : ∃ x, E.C n = x := ⟨_, rfl⟩
    rw [hx] at cz HLs
    clear hx
    by_cases h0 : x = 0
    · as_aux_lemma =>
      have dx : ((x : Int) == 0) = true := by simp; omega
      have HL2 : Hid (lastNz E.C (g + 1) = lastNz E.C n) := hid (by rw [HL.out, HLs.out, if_pos h0])
      clear HL HLs h0
      go_wp2
      exact ⟨⟨by trivial, n, by go_num, by omega, HL2⟩, by simp [intOf] <;> omega⟩
    · have dx : ((x : Int) == 0) = false := by simp; omega
      have HL2 : Hid (lastNz E.C (g + 1) = some n) := hid (by rw [HL.out, HLs.out, if_neg h0])
      have HR2 : Hid (R = if opW E.W n = 0 then (if 2 * (n : Int) + decSize (E.W (2 * n)) < (k : Int) then rsC 8 0 0 else rsC 0 ((65536 + 2 * n : Nat) : Int) 0) else rsC (opW E.W n) 0 0) := hid (by rw [← HRR.out, HL2.out])
      clear HL HLs HL2 HRR h0
      have HP := hid (fun wz (hz : MM l E wz) => owM hz hn2)
      unfold owR at HP
      obtain ⟨n2, hn3⟩ : ∃ n2, 2 * n = n2 := ⟨_, rfl⟩
      have en2 : (n : Int) * 2 = (n2 : Int) := by omega
      have hn4 : n2 < 32768 := by omega
      have b2 : opW E.W n = 0 → 1 ≤ decSize (E.W n2) ∧ decSize (E.W n2) ≤ 8192 := by
        intro ho
        unfold opW at ho
        rw [hn3] at ho
        by_cases hh : isHdr (E.W n2)
        · obtain ⟨b1, b2, b3, b4⟩ := hdr_ok hh.2.2
          exact ⟨b1, b2⟩
        · rw [if_neg hh] at ho; exact absurd ho (by decide)
      rw [show 2 * (n : Int) = (n2 : Int) by omega] at HR2
      rw [hn3] at HP HR2
      by_cases ho : opW E.W n = 0
      · have bb := b2 ho
        rw [if_pos ho] at HP HR2
        clear b2 ho
        generalize decSize (E.W n2) = sz at *
        generalize decRefs (E.W n2) = rf at *
        obtain ⟨y, hy⟩ : ∃ y, (n2 : Int) + sz = y := ⟨_, rfl⟩
        have hyb : 0 ≤ y ∧ y ≤ 50000 := by omega
        rw [hy] at HR2
        by_cases h5 : y < (k : Int)
        · as_aux_lemma =>
          have d5 : decide ((k : Int) > y) = true := decide_eq_true h5
          have d5' : decide (y < (k : Int)) = true := decide_eq_true h5
          rw [if_pos h5] at HR2
          (go_wp2_with fail; refine (HP.out _ HX.out.md.mm).mono ?_; rintro e_ w_ ⟨he_, hw_⟩; subst he_; have hs_ := hw_.symm; clear hw_; subst hs_)
          (go_wp2_with fail; refine (HO.out _).mono ?_; rintro e_ w_ ⟨he_, hw_⟩; subst he_; have hs_ := hw_.symm; clear hw_; subst hs_)
          go_wp2_with fail
          refine (HR.out 8 _).mono ?_
          rintro e w3 ⟨rfl, hb3⟩
          have HX3 := hid (HX.out.below hb3)
          clear hb3 HX
          go_wp2_with (refine wpList_store_blk rfl 46 _ _ rfl p rfl (rsC 8 0 0) rfl HX3.out.b rfl I0.out (rsC_one _ _ _) ?_; intro w9 HB9 HU9)
          refine bodyPost_ret (results_blk (cs := (rsC 8 0 0)) Tryz.results105 rfl agg_rs HB9.out) rfl ?_
          exact ⟨by rw [HR2.out], hid (HX3.out.done HU9.out)⟩
        · as_aux_lemma =>
          have d5 : decide ((k : Int) > y) = false := decide_eq_false h5
          have d5' : decide (y < (k : Int)) = false := decide_eq_false h5
          rw [if_neg h5] at HR2
          have HAd := hid (fun wz => adrM n2 (by omega) wz)
          generalize 65536 + n2 = z at *
          (go_wp2_with fail; refine (HP.out _ HX.out.md.mm).mono ?_; rintro e_ w_ ⟨he_, hw_⟩; subst he_; have hs_ := hw_.symm; clear hw_; subst hs_)
          (go_wp2_with fail; refine (HO.out _).mono ?_; rintro e_ w_ ⟨he_, hw_⟩; subst he_; have hs_ := hw_.symm; clear hw_; subst hs_)
          (go_wp2_with fail; refine (HAd.out _).mono ?_; rintro e_ w_ ⟨he_, hw_⟩; subst he_; have hs_ := hw_.symm; clear hw_; subst hs_)
          go_wp2_with fail
          refine (ansM (z : Int) 0 _).mono ?_
          rintro e w3 ⟨rfl, hb3⟩
          have HX3 := hid (HX.out.below hb3)
          clear hb3 HX
          go_wp2_with (refine wpList_store_blk rfl 46 _ _ rfl p rfl (rsC 0 (z : Int) 0) rfl HX3.out.b rfl I0.out (rsC_one _ _ _) ?_; intro w9 HB9 HU9)
          refine bodyPost_ret (results_blk (cs := (rsC 0 (z : Int) 0)) Tryz.results105 rfl agg_rs HB9.out) rfl ?_
          exact ⟨by rw [HR2.out], hid (HX3.out.done HU9.out)⟩
      · as_aux_lemma =>
        rw [if_neg ho] at HP HR2
        clear b2
        generalize opW E.W n = cd at *
        have dc : (cd != 0) = true := by simpa using ho
        have dc' : (cd == 0) = false := by simpa using ho
        (go_wp2_with fail; refine (HP.out _ HX.out.md.mm).mono ?_; rintro e_ w_ ⟨he_, hw_⟩; subst he_; have hs_ := hw_.symm; clear hw_; subst hs_)
        go_wp2_with fail
        refine (HR.out cd _).mono ?_
        rintro e w3 ⟨rfl, hb3⟩
        have HX3 := hid (HX.out.below hb3)
        clear hb3 HX
        go_wp2_with (refine wpList_store_blk rfl 46 _ _ rfl p rfl (rsC cd 0 0) rfl HX3.out.b rfl I0.out (rsC_one _ _ _) ?_; intro w9 HB9 HU9)
        refine bodyPost_ret (results_blk (cs := (rsC cd 0 0)) Tryz.results105 rfl agg_rs HB9.out) rfl ?_
        exact ⟨by rw [HR2.out], hid (HX3.out.done HU9.out)⟩
end
end Go.Proofs.Qxb6500887aGreat
