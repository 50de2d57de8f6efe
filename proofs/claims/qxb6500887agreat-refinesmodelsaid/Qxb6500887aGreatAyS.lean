/- The model's steps: decode, sizes. -/
import Derived.Test.Qxb6500887aGreatAyR
import Derived.Deep.DeepCutAuto
namespace Go.Proofs.Qxb6500887aGreat
open Go.RowKit
set_option linter.unusedSimpArgs false
set_option linter.unusedVariables false
section
variable {l : ML} {E E' : ES} {w w' w0 w3 w4 : World} {p : Nat}
def deR (a : Int) : List Value := if wantW a = 0 then rsC 0 ((wIx a / 512 * 65536 + wIx a / 16 : Nat) : Int) (((wIx a / 16 - wIx a / 512 * 32) * 65536 + (wIx a - wIx a / 16 * 16) : Nat) : Int) else rsC (wantW a) 0 0
def szR (s : Int) : List Value := if s < 1 ∨ 8192 < s then rsC 4 0 0 else rsC 0 (s + 1) ((((s.toNat + 1 + 15) / 16) * 65536 + (s.toNat + 1 + 511) / 512 : Nat) : Int)
set_option maxRecDepth 100000 in
set_option maxHeartbeats 2000000 in
theorem decM (h : MM l E w) (a : Int) : Calls Tryz.prog 127 #[.int .u64 a] w fun e w' => e = .returned (.agg (deR a).toArray) ∧ Hid (MD w l E w') := by
  have I0 := hid info_rs
  have HR := hid (fun (c : Int) (wz : World) => refM c wz)
  have HW := hid (fun wz => ckwM a wz)
  obtain ⟨p, hp⟩ : ∃ p, w.heap.size = p := ⟨_, rfl⟩
  have HX := hid (MX.start h hp)
  dsimp only [rsC, rsT] at HX
  clear h
  unfold deR
  by_cases hz : wantW a = 0
  rotate_left
  · as_aux_lemma =>
    rw [if_neg hz]
    generalize wantW a = cd at *
    have dc : (cd != 0) = true := by simpa using hz
    have dc' : (cd == 0) = false := by simpa using hz
    go_enter Tryz.func127, Tryz.ntmps127
    go_upto_region 1 with fail
    (try simp only [hp])
    generalize hw2 : w.alloc _ = w2 at HX ⊢
    clear hw2 hp
    (go_wp2_with fail; refine (HW.out _).mono ?_; rintro e_ w_ ⟨he_, hw_⟩; subst he_; have hs_ := hw_.symm; clear hw_; subst hs_)
    go_wp2_with fail
    refine (HR.out cd _).mono ?_
    rintro e w3 ⟨rfl, hb3⟩
    have HX3 := hid (HX.out.below hb3)
    clear hb3 HX
    go_wp2_with (refine wpList_store_blk rfl 46 _ _ rfl p rfl (rsC cd 0 0) rfl HX3.out.b rfl I0.out (rsC_one _ _ _) ?_; intro w9 HB9 HU9)
    refine bodyPost_ret (results_blk (cs := (rsC cd 0 0)) Tryz.results127 rfl agg_rs HB9.out) rfl ?_
    exact ⟨rfl, hid (HX3.out.done HU9.out)⟩
  as_aux_lemma =>
  rw [if_pos hz]
  rw [hz] at HW
  have hi : InH a := by
    by_cases hi : InH a
    · exact hi
    · unfold wantW at hz; rw [if_neg hi] at hz; exact absurd hz (by decide)
  obtain ⟨g1, g2⟩ := wIx_of hi
  have HO := hid (fun wz => wofM' a hi.1 (by have := hi.2; omega) wz)
  rw [← g1] at HO
  generalize wIx a = k at *
  clear g1 hi hz
  obtain ⟨bk, hbk⟩ : ∃ x, k / 512 = x := ⟨_, rfl⟩
  obtain ⟨ln, hln⟩ : ∃ x, k / 16 = x := ⟨_, rfl⟩
  rw [hbk, hln]
  have e1 : (k : Int).tdiv 512 = (bk : Int) := by rw [Int.tdiv_eq_ediv_of_nonneg (by omega)]; omega
  have e1' : (k : Int) / 512 = (bk : Int) := by omega
  have e2 : (k : Int).tdiv 16 = (ln : Int) := by rw [Int.tdiv_eq_ediv_of_nonneg (by omega)]; omega
  have e2' : (k : Int) / 16 = (ln : Int) := by omega
  obtain ⟨b32, hb32⟩ : ∃ x, bk * 32 = x := ⟨_, rfl⟩
  have e3 : (bk : Int) * 32 = (b32 : Int) := by omega
  obtain ⟨rw', hrw⟩ : ∃ x, ln - b32 = x := ⟨_, rfl⟩
  have e4 : (ln : Int) - (b32 : Int) = (rw' : Int) := by omega
  obtain ⟨l16, hl16⟩ : ∃ x, ln * 16 = x := ⟨_, rfl⟩
  have e5 : (ln : Int) * 16 = (l16 : Int) := by omega
  obtain ⟨sl, hsl⟩ : ∃ x, k - l16 = x := ⟨_, rfl⟩
  have e6 : (k : Int) - (l16 : Int) = (sl : Int) := by omega
  obtain ⟨m1, hm1⟩ : ∃ x, bk * 65536 = x := ⟨_, rfl⟩
  have e7 : (bk : Int) * 65536 = (m1 : Int) := by omega
  obtain ⟨v1, hv1⟩ : ∃ x, m1 + ln = x := ⟨_, rfl⟩
  have e8 : (m1 : Int) + (ln : Int) = (v1 : Int) := by omega
  obtain ⟨m2, hm2⟩ : ∃ x, rw' * 65536 = x := ⟨_, rfl⟩
  have e9 : (rw' : Int) * 65536 = (m2 : Int) := by omega
  obtain ⟨v2, hv2⟩ : ∃ x, m2 + sl = x := ⟨_, rfl⟩
  have e10 : (m2 : Int) + (sl : Int) = (v2 : Int) := by omega
  rw [hb32, hl16, hrw, hsl, hm1, hm2, hv1, hv2]
  have bb : bk ≤ 64 ∧ ln ≤ 2048 ∧ b32 ≤ 2048 ∧ rw' ≤ 2048 ∧ l16 ≤ 32768 ∧ sl ≤ 32768 ∧ m1 ≤ 5000000 ∧ v1 ≤ 6000000 ∧ m2 ≤ 200000000 ∧ v2 ≤ 300000000 := by omega
  clear hbk hln hb32 hrw hl16 hsl hm1 hv1 hm2 hv2
  go_enter Tryz.func127, Tryz.ntmps127
  go_upto_region 1 with fail
  (try simp only [hp])
  generalize hw2 : w.alloc _ = w2 at HX ⊢
  clear hw2 hp
  (go_wp2_with fail; refine (HW.out _).mono ?_; rintro e_ w_ ⟨he_, hw_⟩; subst he_; have hs_ := hw_.symm; clear hw_; subst hs_)
  (go_wp2_with fail; refine (HO.out _).mono ?_; rintro e_ w_ ⟨he_, hw_⟩; subst he_; have hs_ := hw_.symm; clear hw_; subst hs_)
  go_wp2_with fail
  refine (ansM (v1 : Int) (v2 : Int) _).mono ?_
  rintro e w3 ⟨rfl, hb3⟩
  have HX3 := hid (HX.out.below hb3)
  clear hb3 HX
  go_wp2_with (refine wpList_store_blk rfl 46 _ _ rfl p rfl (rsC 0 (v1 : Int) (v2 : Int)) rfl HX3.out.b rfl I0.out (rsC_one _ _ _) ?_; intro w9 HB9 HU9)
  refine bodyPost_ret (results_blk (cs := (rsC 0 (v1 : Int) (v2 : Int))) Tryz.results127 rfl agg_rs HB9.out) rfl ?_
  exact ⟨rfl, hid (HX3.out.done HU9.out)⟩
set_option maxRecDepth 100000 in
set_option maxHeartbeats 2000000 in
theorem sizM (h : MM l E w) (s : Int) : Calls Tryz.prog 128 #[.int .i64 s] w fun e w' => e = .returned (.agg (szR s).toArray) ∧ Hid (MD w l E w') := by
  have I0 := hid info_rs
  have HR := hid (fun (c : Int) (wz : World) => refM c wz)
  obtain ⟨p, hp⟩ : ∃ p, w.heap.size = p := ⟨_, rfl⟩
  have HX := hid (MX.start h hp)
  dsimp only [rsC, rsT] at HX
  clear h
  unfold szR
  by_cases h1 : s < 1
  · as_aux_lemma =>
    have d1 : decide (s < 1) = true := decide_eq_true h1
    rw [if_pos (.inl h1)]
    go_enter Tryz.func128, Tryz.ntmps128
    go_upto_region 1 with fail
    (try simp only [hp])
    generalize hw2 : w.alloc _ = w2 at HX ⊢
    clear hw2 hp
    go_wp2_with fail
    refine (HR.out 4 _).mono ?_
    rintro e w3 ⟨rfl, hb3⟩
    have HX3 := hid (HX.out.below hb3)
    clear hb3 HX
    go_wp2_with (refine wpList_store_blk rfl 46 _ _ rfl p rfl (rsC 4 0 0) rfl HX3.out.b rfl I0.out (rsC_one _ _ _) ?_; intro w9 HB9 HU9)
    refine bodyPost_ret (results_blk (cs := (rsC 4 0 0)) Tryz.results128 rfl agg_rs HB9.out) rfl ?_
    exact ⟨rfl, hid (HX3.out.done HU9.out)⟩
  have d1 : decide (s < 1) = false := decide_eq_false h1
  by_cases h2 : 8192 < s
  · as_aux_lemma =>
    have d2 : decide (s > 8192) = true := decide_eq_true h2
    have d2' : decide (8192 < s) = true := decide_eq_true h2
    rw [if_pos (.inr h2)]
    go_enter Tryz.func128, Tryz.ntmps128
    go_upto_region 1 with fail
    (try simp only [hp])
    generalize hw2 : w.alloc _ = w2 at HX ⊢
    clear hw2 hp
    go_wp2_with fail
    refine (HR.out 4 _).mono ?_
    rintro e w3 ⟨rfl, hb3⟩
    have HX3 := hid (HX.out.below hb3)
    clear hb3 HX
    go_wp2_with (refine wpList_store_blk rfl 46 _ _ rfl p rfl (rsC 4 0 0) rfl HX3.out.b rfl I0.out (rsC_one _ _ _) ?_; intro w9 HB9 HU9)
    refine bodyPost_ret (results_blk (cs := (rsC 4 0 0)) Tryz.results128 rfl agg_rs HB9.out) rfl ?_
    exact ⟨rfl, hid (HX3.out.done HU9.out)⟩
  have d2 : decide (s > 8192) = false := decide_eq_false h2
  have d2' : decide (8192 < s) = false := decide_eq_false h2
  rw [if_neg (by omega)]
  as_aux_lemma =>
  obtain ⟨n, hn⟩ : ∃ n : Nat, s + 1 = (n : Int) := ⟨(s + 1).toNat, by omega⟩
  rw [hn, show s.toNat + 1 = n by omega]
  have hnb : 2 ≤ n ∧ n ≤ 8193 := by omega
  obtain ⟨L, hL⟩ : ∃ L, (n + 15) / 16 = L := ⟨_, rfl⟩
  obtain ⟨B, hB⟩ : ∃ B, (n + 511) / 512 = B := ⟨_, rfl⟩
  rw [hL, hB]
  go_enter Tryz.func128, Tryz.ntmps128
  go_upto_region 1 with fail
  (try simp only [hp])
  generalize hw2 : w.alloc _ = w2 at HX ⊢
  clear hw2 hp
  go_upto_region 5 with fail
  clear d1 d2 d2' hn
  go_loopw [4] (fun u wr => wr = w2 ∧ ∃ q : Nat, u = .int .i64 (q : Int) ∧ q ≤ L) (fun u _ => L - (intOf u).toNat)
  case atStart => exact ⟨rfl, 0, rfl, Nat.zero_le _⟩
  case round =>
  obtain ⟨hwr, q, rfl, hq⟩ := hrel
  have hwr' := hwr.symm
  clear hwr
  subst hwr'
  obtain ⟨y, hy⟩ : ∃ y, q * 16 = y := ⟨_, rfl⟩
  have ey : (q : Int) * 16 = (y : Int) := by omega
  have hyb : y ≤ 20000 := by omega
  by_cases hql : y < n
  · as_aux_lemma =>
    have dq : decide ((y : Int) < (n : Int)) = true := decide_eq_true (by omega)
    go_wp2
    exact ⟨⟨by trivial, q + 1, by go_num, by omega⟩, by simp [intOf]; omega⟩
  as_aux_lemma =>
  have dq : decide ((y : Int) < (n : Int)) = false := decide_eq_false (by omega)
  have eL : q = L := by omega
  go_upto_region 7 with fail
  clear dq
  go_loopw [5] (fun u wr => wr = w2 ∧ ∃ q : Nat, u = .int .i64 (q : Int) ∧ q ≤ B) (fun u _ => B - (intOf u).toNat)
  case atStart => exact ⟨rfl, 0, rfl, Nat.zero_le _⟩
  case round =>
  obtain ⟨hwr, r, rfl, hr⟩ := hrel
  have hwr' := hwr.symm
  clear hwr
  subst hwr'
  obtain ⟨z, hz⟩ : ∃ z, r * 512 = z := ⟨_, rfl⟩
  have ez : (r : Int) * 512 = (z : Int) := by omega
  have hzb : z ≤ 20000 := by omega
  by_cases hrl : z < n
  · as_aux_lemma =>
    have dq : decide ((z : Int) < (n : Int)) = true := decide_eq_true (by omega)
    go_wp2
    exact ⟨⟨by trivial, r + 1, by go_num, by omega⟩, by simp [intOf]; omega⟩
  as_aux_lemma =>
  have dq : decide ((z : Int) < (n : Int)) = false := decide_eq_false (by omega)
  have eB : r = B := by omega
  obtain ⟨m1, hm1⟩ : ∃ x, q * 65536 = x := ⟨_, rfl⟩
  have e7 : (q : Int) * 65536 = (m1 : Int) := by omega
  obtain ⟨v1, hv1⟩ : ∃ x, m1 + r = x := ⟨_, rfl⟩
  have e8 : (m1 : Int) + (r : Int) = (v1 : Int) := by omega
  have bb : m1 ≤ 100000000 ∧ v1 ≤ 200000000 := by omega
  have Hv : Hid (L * 65536 + B = v1) := hid (by rw [← eL, ← eB, hm1, hv1])
  clear eL eB hL hB hm1 hv1
  go_wp2_with fail
  refine (ansM (n : Int) (v1 : Int) _).mono ?_
  rintro e w3 ⟨rfl, hb3⟩
  have HX3 := hid (HX.out.below hb3)
  clear hb3 HX
  go_wp2_with (refine wpList_store_blk rfl 46 _ _ rfl p rfl (rsC 0 (n : Int) (v1 : Int)) rfl HX3.out.b rfl I0.out (rsC_one _ _ _) ?_; intro w9 HB9 HU9)
  refine bodyPost_ret (results_blk (cs := (rsC 0 (n : Int) (v1 : Int))) Tryz.results128 rfl agg_rs HB9.out) rfl ?_
  exact ⟨by rw [Hv.out], hid (HX3.out.done HU9.out)⟩
end
end Go.Proofs.Qxb6500887aGreat
