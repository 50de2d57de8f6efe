/- The model's steps that take an operation: nextObject. -/
import Derived.Test.Qxb6500887aGreatAyU
import Derived.Deep.DeepCutAuto
namespace Go.Proofs.Qxb6500887aGreat
open Go.RowKit
set_option linter.unusedSimpArgs false
set_option linter.unusedVariables false
section
variable {l : ML} {E E' : ES} {w w' w0 w3 w4 : World} {o p r : Nat} {oc rs : List Value}
def noF (H : Nat → Bool) (hi : Nat) : Nat → Option Nat
  | 0 => none
  | j + 1 => if H (hi - (j + 1)) = true then some (hi - (j + 1)) else noF H hi j
def noR (H : Nat → Bool) (a b : Int) : List Value := if stC a b true = 0 then (match noF H (wIx b / 2) (wIx b / 2 - wIx a / 2) with
  | none => rsC 0 0 0
  | some g => rsC 0 ((65536 + 2 * g : Nat) : Int) 0) else rsC (stC a b true) 0 0
theorem noF_step {H : Nat → Bool} {hi g : Nat} (h : g < hi) : noF H hi (hi - g) = if H g = true then some g else noF H hi (hi - (g + 1)) := by
  rw [show hi - g = (hi - (g + 1)) + 1 by omega]
  show (if H (hi - ((hi - (g + 1)) + 1)) = true then some (hi - ((hi - (g + 1)) + 1)) else noF H hi (hi - (g + 1))) = _
  rw [show hi - ((hi - (g + 1)) + 1) = g by omega]
def hit36 (E : ES) : Nat → Bool := fun g => !(E.C g == 0)
def hit37 (E : ES) : Nat → Bool := fun g => E.K g
def hit39 (E : ES) : Nat → Bool := fun g => !(E.C g == 0) && !(E.K g)
set_option maxRecDepth 100000 in
set_option maxHeartbeats 1000000 in
theorem next36 (h : MM l E w) (a b c : Int) (ha : U64 a) (hb : U64 b) (hc : U64 c) : Calls Tryz.prog 123 #[.pointer (some ⟨l.m, 0, none⟩), .agg #[.int .u8 36, .int .u64 a, .int .u64 b, .int .u64 c]] w fun e w' => e = .returned (.agg (noR (hit36 E) a b).toArray) ∧ Hid (MD w l E w') := by
  have I0 := hid info_rs
  have HR := hid (fun (cd : Int) (wz : World) => refM cd wz)
  have HA := hid (fun wz => ansM 0 0 wz)
  obtain ⟨o, ho⟩ : ∃ o, w.heap.size = o := ⟨_, rfl⟩
  obtain ⟨p, hp⟩ : ∃ p, o + 1 = p := ⟨_, rfl⟩
  have HX : Hid (MP w l E o p [.int .u8 36, .int .u64 a, .int .u64 b, .int .u64 c] ((w.alloc (.cells #[.int .u8 36, .int .u64 a, .int .u64 b, .int .u64 c] 31)).alloc (.cells #[.int .u8 0, .int .u64 0, .int .u64 0, .string { data := #[] }, .int .i64 0, .int .i64 0, .int .i64 0, .int .i64 0, .int .i64 0, .int .i64 0, .int .i64 0, .int .i64 0, .int .i64 0, .int .i64 0, .int .i64 0, .int .i64 0, .int .i64 0, .int .i64 0, .int .i64 0, .int .i64 0, .int .u8 0, .int .i64 0, .int .i64 0, .int .i64 0, .int .i64 0, .int .i64 0, .int .i64 0, .int .i64 0, .int .i64 0, .int .i64 0, .int .i64 0, .int .i64 0, .int .i64 0, .int .i64 0, .int .i64 0] 46))) := hid (MP.start h ho hp)
  clear h
  have HW := hid (fun wz => ckbsM a b true wz)
  obtain ⟨R, hR⟩ : ∃ R, noR (hit36 E) a b = R := ⟨_, rfl⟩
  rw [hR]
  unfold noR at hR
  by_cases hz : stC a b true = 0
  rotate_left
  · as_aux_lemma =>
    rw [if_neg hz] at hR
    rw [← hR]
    generalize stC a b true = cd at *
    have dc : (cd != 0) = true := by simpa using hz
    have dc' : (cd == 0) = false := by simpa using hz
    clear hR
    go_enter Tryz.func123, Tryz.ntmps123
    go_upto_region 1 with fail
    (try simp only [World.size_alloc, ho, hp])
    generalize hw2 : World.alloc (w.alloc _) _ = w2 at HX ⊢
    clear hw2 ho hp
    obtain ⟨o0, o1, o2, o3⟩ := HX.out.cells
    (go_wp2_with fail; refine (HW.out _).mono ?_; rintro e_ w_ ⟨he_, hw_⟩; subst he_; have hs_ := hw_.symm; clear hw_; subst hs_)
    go_wp2_with fail
    refine (HR.out cd _).mono ?_
    rintro e w3 ⟨rfl, hb3⟩
    have HX3 := hid (HX.out.below hb3)
    clear hb3 HX o0 o1 o2 o3
    go_wp2_with (refine wpList_store_blk rfl 46 _ _ rfl p rfl (rsC cd 0 0) rfl HX3.out.mx.b rfl I0.out (rsC_one _ _ _) ?_; intro w9 HB9 HU9)
    refine bodyPost_ret (results_blk (cs := (rsC cd 0 0)) Tryz.results123 rfl agg_rs HB9.out) rfl ?_
    exact ⟨rfl, hid (HX3.out.done HU9.out)⟩
  as_aux_lemma =>
  rw [if_pos hz] at hR
  rw [hz] at HW
  obtain ⟨s1, s2, s3, s4, _, _, s5⟩ := stC_ok hz
  have s6 := s5 rfl
  clear s5 hz
  obtain ⟨lo, hlo⟩ : ∃ x, wIx a / 2 = x := ⟨_, rfl⟩
  obtain ⟨hi, hhi⟩ : ∃ x, wIx b / 2 = x := ⟨_, rfl⟩
  rw [hlo, hhi] at hR
  have HRR := hid hR
  obtain ⟨x0, hx0⟩ : ∃ y, 65536 + 2 * lo = y := ⟨_, rfl⟩
  obtain ⟨y, hy⟩ : ∃ y, 65536 + 2 * hi = y := ⟨_, rfl⟩
  have Ea : Hid (a = (x0 : Int)) := hid (by omega)
  have Eb : Hid (b = (y : Int)) := hid (by omega)
  have hb2 : lo ≤ hi ∧ hi ≤ 16384 := by omega
  clear hR s1 s2 s3 s4 s6 hlo hhi ha hb
  go_enter Tryz.func123, Tryz.ntmps123
  go_upto_region 1 with fail
  (try simp only [World.size_alloc, ho, hp])
  generalize hw2 : World.alloc (w.alloc _) _ = w2 at HX ⊢
  clear hw2 ho hp
  obtain ⟨o0, o1, o2, o3⟩ := HX.out.cells
  (go_wp2_with fail; refine (HW.out _).mono ?_; rintro e_ w_ ⟨he_, hw_⟩; subst he_; have hs_ := hw_.symm; clear hw_; subst hs_)
  clear HW
  go_upto_region 5 with fail
  have ea := Ea.out
  have eb := Eb.out
  clear Ea Eb
  subst ea
  subst eb
  go_loopw [6] (fun u wr => wr = w2 ∧ ∃ g : Nat, u = .int .u64 ((65536 + 2 * g : Nat) : Int) ∧ lo ≤ g ∧ g ≤ hi ∧ Hid (noF (hit36 E) hi (hi - lo) = noF (hit36 E) hi (hi - g))) (fun u _ => 98304 - (intOf u).toNat)
  case atStart => exact ⟨rfl, lo, by rw [hx0], Nat.le_refl _, hb2.1, hid rfl⟩
  case round =>
  obtain ⟨hwr, g, rfl, hg0, hg, HI⟩ := hrel
  have hwr' := hwr.symm
  clear hwr
  subst hwr'
  obtain ⟨x, hx⟩ : ∃ x, 65536 + 2 * g = x := ⟨_, rfl⟩
  rw [hx]
  by_cases hgl : g < hi
  rotate_left
  · as_aux_lemma =>
    have dq : decide ((x : Int) < (y : Int)) = false := decide_eq_false (by omega)
    have dqn : decide (x < y) = false := decide_eq_false (by omega)
    have HR2 : Hid (R = rsC 0 0 0) := hid (by rw [← HRR.out, HI.out, show hi - g = 0 by omega]; rfl)
    clear HRR HI
    go_wp2_with fail
    refine (HA.out _).mono ?_
    rintro e w3 ⟨rfl, hb3⟩
    have HX3 := hid (HX.out.below hb3)
    clear hb3 HX o0 o1 o2 o3
    go_wp2_with (refine wpList_store_blk rfl 46 _ _ rfl p rfl (rsC 0 0 0) rfl HX3.out.mx.b rfl I0.out (rsC_one _ _ _) ?_; intro w9 HB9 HU9)
    refine bodyPost_ret (results_blk (cs := (rsC 0 0 0)) Tryz.results123 rfl agg_rs HB9.out) rfl ?_
    exact ⟨by rw [HR2.out], hid (HX3.out.done HU9.out)⟩
  have dq : decide ((x : Int) < (y : Int)) = true := decide_eq_true (by omega)
  have dqn : decide (x < y) = true := decide_eq_true (by omega)
  have hxy : x < y := by omega
  have Hs := hid (HI.out.trans (noF_step hgl))
  clear HI
  have HO := hid (fun wz => wofM (2 * g) (by omega) wz)
  rw [hx] at HO
  obtain ⟨g2, hg2⟩ : ∃ g2, 2 * g = g2 := ⟨_, rfl⟩
  rw [hg2] at HO
  have eg : (g2 : Int).tdiv 2 = (g : Int) := by rw [Int.tdiv_eq_ediv_of_nonneg (by omega)]; omega
  have eg' : (g2 : Int) / 2 = (g : Int) := by omega
  have hgb : g < 16384 := by omega
  have hxb : x ≤ 98304 := by omega
  have c1 := HX.out.mx.md.mm.cells.2.1
  have c2 := HX.out.mx.md.mm.cells.2.2.1
  have cc := HX.out.mx.md.mm.count hgb
  have ck := HX.out.mx.md.mm.mark hgb
  have Hx2 : Hid (65536 + 2 * (g + 1) = x + 2) := hid (by omega)
  have Hx1 : Hid (65536 + 2 * g = x) := hid hx
  obtain ⟨cv, hcv⟩ : ∃ cv, E.C g = cv := ⟨_, rfl⟩
  obtain ⟨kv, hkv⟩ : ∃ kv, E.K g = kv := ⟨_, rfl⟩
  have Hh : Hid (hit36 E g = (!(cv == 0))) := hid (by subst hcv; subst hkv; rfl)
  rw [hcv] at cc
  rw [hkv] at ck
  rw [Hh.out] at Hs
  clear hcv hkv Hh hx hg2
  by_cases h0 : cv = 0
  · as_aux_lemma =>
    have dz : ((cv : Int) != 0) = false := by simp; omega
    have HH : Hid ((!(cv == 0)) = false) := hid (by simp [h0])
    have HI2 : Hid (noF (hit36 E) hi (hi - lo) = noF (hit36 E) hi (hi - (g + 1))) := hid (by rw [Hs.out]; first | rfl | (simp only [HH.out]; rfl))
    clear HRR Hs
    (go_wp2_with fail; refine (HO.out _).mono ?_; rintro e_ w_ ⟨he_, hw_⟩; subst he_; have hs_ := hw_.symm; clear hw_; subst hs_)
    go_wp2
    exact ⟨⟨by trivial, g + 1, by rw [Hx2.out]; go_num, by omega, by omega, HI2⟩, by simp [intOf]; omega⟩
  · as_aux_lemma =>
    have dz : ((cv : Int) != 0) = true := by simp; omega
    have HH : Hid ((!(cv == 0)) = true) := hid (by simp [h0])
    have HR2 : Hid (R = rsC 0 (x : Int) 0) := hid (by rw [← HRR.out, Hs.out]; first | (simp only [HH.out, if_true]; rw [Hx1.out]) | (rw [if_pos rfl]; show rsC 0 ((65536 + 2 * g : Nat) : Int) 0 = _; rw [Hx1.out]))
    clear HRR Hs
    (go_wp2_with fail; refine (HO.out _).mono ?_; rintro e_ w_ ⟨he_, hw_⟩; subst he_; have hs_ := hw_.symm; clear hw_; subst hs_)
    go_wp2_with fail
    refine (ansM (x : Int) 0 _).mono ?_
    rintro e w3 ⟨rfl, hb3⟩
    have HX3 := hid (HX.out.below hb3)
    clear hb3 HX o0 o1 o2 o3
    go_wp2_with (refine wpList_store_blk rfl 46 _ _ rfl p rfl (rsC 0 (x : Int) 0) rfl HX3.out.mx.b rfl I0.out (rsC_one _ _ _) ?_; intro w9 HB9 HU9)
    refine bodyPost_ret (results_blk (cs := (rsC 0 (x : Int) 0)) Tryz.results123 rfl agg_rs HB9.out) rfl ?_
    exact ⟨by rw [HR2.out], hid (HX3.out.done HU9.out)⟩
set_option maxRecDepth 100000 in
set_option maxHeartbeats 1000000 in
theorem next37 (h : MM l E w) (a b c : Int) (ha : U64 a) (hb : U64 b) (hc : U64 c) : Calls Tryz.prog 123 #[.pointer (some ⟨l.m, 0, none⟩), .agg #[.int .u8 37, .int .u64 a, .int .u64 b, .int .u64 c]] w fun e w' => e = .returned (.agg (noR (hit37 E) a b).toArray) ∧ Hid (MD w l E w') := by
  have I0 := hid info_rs
  have HR := hid (fun (cd : Int) (wz : World) => refM cd wz)
  have HA := hid (fun wz => ansM 0 0 wz)
  obtain ⟨o, ho⟩ : ∃ o, w.heap.size = o := ⟨_, rfl⟩
  obtain ⟨p, hp⟩ : ∃ p, o + 1 = p := ⟨_, rfl⟩
  have HX : Hid (MP w l E o p [.int .u8 37, .int .u64 a, .int .u64 b, .int .u64 c] ((w.alloc (.cells #[.int .u8 37, .int .u64 a, .int .u64 b, .int .u64 c] 31)).alloc (.cells #[.int .u8 0, .int .u64 0, .int .u64 0, .string { data := #[] }, .int .i64 0, .int .i64 0, .int .i64 0, .int .i64 0, .int .i64 0, .int .i64 0, .int .i64 0, .int .i64 0, .int .i64 0, .int .i64 0, .int .i64 0, .int .i64 0, .int .i64 0, .int .i64 0, .int .i64 0, .int .i64 0, .int .u8 0, .int .i64 0, .int .i64 0, .int .i64 0, .int .i64 0, .int .i64 0, .int .i64 0, .int .i64 0, .int .i64 0, .int .i64 0, .int .i64 0, .int .i64 0, .int .i64 0, .int .i64 0, .int .i64 0] 46))) := hid (MP.start h ho hp)
  clear h
  have HW := hid (fun wz => ckbsM a b true wz)
  obtain ⟨R, hR⟩ : ∃ R, noR (hit37 E) a b = R := ⟨_, rfl⟩
  rw [hR]
  unfold noR at hR
  by_cases hz : stC a b true = 0
  rotate_left
  · as_aux_lemma =>
    rw [if_neg hz] at hR
    rw [← hR]
    generalize stC a b true = cd at *
    have dc : (cd != 0) = true := by simpa using hz
    have dc' : (cd == 0) = false := by simpa using hz
    clear hR
    go_enter Tryz.func123, Tryz.ntmps123
    go_upto_region 1 with fail
    (try simp only [World.size_alloc, ho, hp])
    generalize hw2 : World.alloc (w.alloc _) _ = w2 at HX ⊢
    clear hw2 ho hp
    obtain ⟨o0, o1, o2, o3⟩ := HX.out.cells
    (go_wp2_with fail; refine (HW.out _).mono ?_; rintro e_ w_ ⟨he_, hw_⟩; subst he_; have hs_ := hw_.symm; clear hw_; subst hs_)
    go_wp2_with fail
    refine (HR.out cd _).mono ?_
    rintro e w3 ⟨rfl, hb3⟩
    have HX3 := hid (HX.out.below hb3)
    clear hb3 HX o0 o1 o2 o3
    go_wp2_with (refine wpList_store_blk rfl 46 _ _ rfl p rfl (rsC cd 0 0) rfl HX3.out.mx.b rfl I0.out (rsC_one _ _ _) ?_; intro w9 HB9 HU9)
    refine bodyPost_ret (results_blk (cs := (rsC cd 0 0)) Tryz.results123 rfl agg_rs HB9.out) rfl ?_
    exact ⟨rfl, hid (HX3.out.done HU9.out)⟩
  as_aux_lemma =>
  rw [if_pos hz] at hR
  rw [hz] at HW
  obtain ⟨s1, s2, s3, s4, _, _, s5⟩ := stC_ok hz
  have s6 := s5 rfl
  clear s5 hz
  obtain ⟨lo, hlo⟩ : ∃ x, wIx a / 2 = x := ⟨_, rfl⟩
  obtain ⟨hi, hhi⟩ : ∃ x, wIx b / 2 = x := ⟨_, rfl⟩
  rw [hlo, hhi] at hR
  have HRR := hid hR
  obtain ⟨x0, hx0⟩ : ∃ y, 65536 + 2 * lo = y := ⟨_, rfl⟩
  obtain ⟨y, hy⟩ : ∃ y, 65536 + 2 * hi = y := ⟨_, rfl⟩
  have Ea : Hid (a = (x0 : Int)) := hid (by omega)
  have Eb : Hid (b = (y : Int)) := hid (by omega)
  have hb2 : lo ≤ hi ∧ hi ≤ 16384 := by omega
  clear hR s1 s2 s3 s4 s6 hlo hhi ha hb
  go_enter Tryz.func123, Tryz.ntmps123
  go_upto_region 1 with fail
  (try simp only [World.size_alloc, ho, hp])
  generalize hw2 : World.alloc (w.alloc _) _ = w2 at HX ⊢
  clear hw2 ho hp
  obtain ⟨o0, o1, o2, o3⟩ := HX.out.cells
  (go_wp2_with fail; refine (HW.out _).mono ?_; rintro e_ w_ ⟨he_, hw_⟩; subst he_; have hs_ := hw_.symm; clear hw_; subst hs_)
  clear HW
  go_upto_region 5 with fail
  have ea := Ea.out
  have eb := Eb.out
  clear Ea Eb
  subst ea
  subst eb
  go_loopw [6] (fun u wr => wr = w2 ∧ ∃ g : Nat, u = .int .u64 ((65536 + 2 * g : Nat) : Int) ∧ lo ≤ g ∧ g ≤ hi ∧ Hid (noF (hit37 E) hi (hi - lo) = noF (hit37 E) hi (hi - g))) (fun u _ => 98304 - (intOf u).toNat)
  case atStart => exact ⟨rfl, lo, by rw [hx0], Nat.le_refl _, hb2.1, hid rfl⟩
  case round =>
  obtain ⟨hwr, g, rfl, hg0, hg, HI⟩ := hrel
  have hwr' := hwr.symm
  clear hwr
  subst hwr'
  obtain ⟨x, hx⟩ : ∃ x, 65536 + 2 * g = x := ⟨_, rfl⟩
  rw [hx]
  by_cases hgl : g < hi
  rotate_left
  · as_aux_lemma =>
    have dq : decide ((x : Int) < (y : Int)) = false := decide_eq_false (by omega)
    have dqn : decide (x < y) = false := decide_eq_false (by omega)
    have HR2 : Hid (R = rsC 0 0 0) := hid (by rw [← HRR.out, HI.out, show hi - g = 0 by omega]; rfl)
    clear HRR HI
    go_wp2_with fail
    refine (HA.out _).mono ?_
    rintro e w3 ⟨rfl, hb3⟩
    have HX3 := hid (HX.out.below hb3)
    clear hb3 HX o0 o1 o2 o3
    go_wp2_with (refine wpList_store_blk rfl 46 _ _ rfl p rfl (rsC 0 0 0) rfl HX3.out.mx.b rfl I0.out (rsC_one _ _ _) ?_; intro w9 HB9 HU9)
    refine bodyPost_ret (results_blk (cs := (rsC 0 0 0)) Tryz.results123 rfl agg_rs HB9.out) rfl ?_
    exact ⟨by rw [HR2.out], hid (HX3.out.done HU9.out)⟩
  have dq : decide ((x : Int) < (y : Int)) = true := decide_eq_true (by omega)
  have dqn : decide (x < y) = true := decide_eq_true (by omega)
  have hxy : x < y := by omega
  have Hs := hid (HI.out.trans (noF_step hgl))
  clear HI
  have HO := hid (fun wz => wofM (2 * g) (by omega) wz)
  rw [hx] at HO
  obtain ⟨g2, hg2⟩ : ∃ g2, 2 * g = g2 := ⟨_, rfl⟩
  rw [hg2] at HO
  have eg : (g2 : Int).tdiv 2 = (g : Int) := by rw [Int.tdiv_eq_ediv_of_nonneg (by omega)]; omega
  have eg' : (g2 : Int) / 2 = (g : Int) := by omega
  have hgb : g < 16384 := by omega
  have hxb : x ≤ 98304 := by omega
  have c1 := HX.out.mx.md.mm.cells.2.1
  have c2 := HX.out.mx.md.mm.cells.2.2.1
  have cc := HX.out.mx.md.mm.count hgb
  have ck := HX.out.mx.md.mm.mark hgb
  have Hx2 : Hid (65536 + 2 * (g + 1) = x + 2) := hid (by omega)
  have Hx1 : Hid (65536 + 2 * g = x) := hid hx
  obtain ⟨cv, hcv⟩ : ∃ cv, E.C g = cv := ⟨_, rfl⟩
  obtain ⟨kv, hkv⟩ : ∃ kv, E.K g = kv := ⟨_, rfl⟩
  have Hh : Hid (hit37 E g = kv) := hid (by subst hcv; subst hkv; rfl)
  rw [hcv] at cc
  rw [hkv] at ck
  rw [Hh.out] at Hs
  clear hcv hkv Hh hx hg2
  cases kv with
  | false =>
    as_aux_lemma =>
    have HH : Hid (false = false) := hid rfl
    have HI2 : Hid (noF (hit37 E) hi (hi - lo) = noF (hit37 E) hi (hi - (g + 1))) := hid (by rw [Hs.out]; first | rfl | (simp only [HH.out]; rfl))
    clear HRR Hs
    (go_wp2_with fail; refine (HO.out _).mono ?_; rintro e_ w_ ⟨he_, hw_⟩; subst he_; have hs_ := hw_.symm; clear hw_; subst hs_)
    go_wp2
    exact ⟨⟨by trivial, g + 1, by rw [Hx2.out]; go_num, by omega, by omega, HI2⟩, by simp [intOf]; omega⟩
  | true =>
    as_aux_lemma =>
    have HH : Hid (true = true) := hid rfl
    have HR2 : Hid (R = rsC 0 (x : Int) 0) := hid (by rw [← HRR.out, Hs.out]; first | (simp only [HH.out, if_true]; rw [Hx1.out]) | (rw [if_pos rfl]; show rsC 0 ((65536 + 2 * g : Nat) : Int) 0 = _; rw [Hx1.out]))
    clear HRR Hs
    (go_wp2_with fail; refine (HO.out _).mono ?_; rintro e_ w_ ⟨he_, hw_⟩; subst he_; have hs_ := hw_.symm; clear hw_; subst hs_)
    go_wp2_with fail
    refine (ansM (x : Int) 0 _).mono ?_
    rintro e w3 ⟨rfl, hb3⟩
    have HX3 := hid (HX.out.below hb3)
    clear hb3 HX o0 o1 o2 o3
    go_wp2_with (refine wpList_store_blk rfl 46 _ _ rfl p rfl (rsC 0 (x : Int) 0) rfl HX3.out.mx.b rfl I0.out (rsC_one _ _ _) ?_; intro w9 HB9 HU9)
    refine bodyPost_ret (results_blk (cs := (rsC 0 (x : Int) 0)) Tryz.results123 rfl agg_rs HB9.out) rfl ?_
    exact ⟨by rw [HR2.out], hid (HX3.out.done HU9.out)⟩
set_option maxRecDepth 100000 in
set_option maxHeartbeats 1000000 in
theorem next39 (h : MM l E w) (a b c : Int) (ha : U64 a) (hb : U64 b) (hc : U64 c) : Calls Tryz.prog 123 #[.pointer (some ⟨l.m, 0, none⟩), .agg #[.int .u8 39, .int .u64 a, .int .u64 b, .int .u64 c]] w fun e w' => e = .returned (.agg (noR (hit39 E) a b).toArray) ∧ Hid (MD w l E w') := by
  have I0 := hid info_rs
  have HR := hid (fun (cd : Int) (wz : World) => refM cd wz)
  have HA := hid (fun wz => ansM 0 0 wz)
  obtain ⟨o, ho⟩ : ∃ o, w.heap.size = o := ⟨_, rfl⟩
  obtain ⟨p, hp⟩ : ∃ p, o + 1 = p := ⟨_, rfl⟩
  have HX : Hid (MP w l E o p [.int .u8 39, .int .u64 a, .int .u64 b, .int .u64 c] ((w.alloc (.cells #[.int .u8 39, .int .u64 a, .int .u64 b, .int .u64 c] 31)).alloc (.cells #[.int .u8 0, .int .u64 0, .int .u64 0, .string { data := #[] }, .int .i64 0, .int .i64 0, .int .i64 0, .int .i64 0, .int .i64 0, .int .i64 0, .int .i64 0, .int .i64 0, .int .i64 0, .int .i64 0, .int .i64 0, .int .i64 0, .int .i64 0, .int .i64 0, .int .i64 0, .int .i64 0, .int .u8 0, .int .i64 0, .int .i64 0, .int .i64 0, .int .i64 0, .int .i64 0, .int .i64 0, .int .i64 0, .int .i64 0, .int .i64 0, .int .i64 0, .int .i64 0, .int .i64 0, .int .i64 0, .int .i64 0] 46))) := hid (MP.start h ho hp)
  clear h
  have HW := hid (fun wz => ckbsM a b true wz)
  obtain ⟨R, hR⟩ : ∃ R, noR (hit39 E) a b = R := ⟨_, rfl⟩
  rw [hR]
  unfold noR at hR
  by_cases hz : stC a b true = 0
  rotate_left
  · as_aux_lemma =>
    rw [if_neg hz] at hR
    rw [← hR]
    generalize stC a b true = cd at *
    have dc : (cd != 0) = true := by simpa using hz
    have dc' : (cd == 0) = false := by simpa using hz
    clear hR
    go_enter Tryz.func123, Tryz.ntmps123
    go_upto_region 1 with fail
    (try simp only [World.size_alloc, ho, hp])
    generalize hw2 : World.alloc (w.alloc _) _ = w2 at HX ⊢
    clear hw2 ho hp
    obtain ⟨o0, o1, o2, o3⟩ := HX.out.cells
    (go_wp2_with fail; refine (HW.out _).mono ?_; rintro e_ w_ ⟨he_, hw_⟩; subst he_; have hs_ := hw_.symm; clear hw_; subst hs_)
    go_wp2_with fail
    refine (HR.out cd _).mono ?_
    rintro e w3 ⟨rfl, hb3⟩
    have HX3 := hid (HX.out.below hb3)
    clear hb3 HX o0 o1 o2 o3
    go_wp2_with (refine wpList_store_blk rfl 46 _ _ rfl p rfl (rsC cd 0 0) rfl HX3.out.mx.b rfl I0.out (rsC_one _ _ _) ?_; intro w9 HB9 HU9)
    refine bodyPost_ret (results_blk (cs := (rsC cd 0 0)) Tryz.results123 rfl agg_rs HB9.out) rfl ?_
    exact ⟨rfl, hid (HX3.out.done HU9.out)⟩
  as_aux_lemma =>
  rw [if_pos hz] at hR
  rw [hz] at HW
  obtain ⟨s1, s2, s3, s4, _, _, s5⟩ := stC_ok hz
  have s6 := s5 rfl
  clear s5 hz
  obtain ⟨lo, hlo⟩ : ∃ x, wIx a / 2 = x := ⟨_, rfl⟩
  obtain ⟨hi, hhi⟩ : ∃ x, wIx b / 2 = x := ⟨_, rfl⟩
  rw [hlo, hhi] at hR
  have HRR := hid hR
  obtain ⟨x0, hx0⟩ : ∃ y, 65536 + 2 * lo = y := ⟨_, rfl⟩
  obtain ⟨y, hy⟩ : ∃ y, 65536 + 2 * hi = y := ⟨_, rfl⟩
  have Ea : Hid (a = (x0 : Int)) := hid (by omega)
  have Eb : Hid (b = (y : Int)) := hid (by omega)
  have hb2 : lo ≤ hi ∧ hi ≤ 16384 := by omega
  clear hR s1 s2 s3 s4 s6 hlo hhi ha hb
  go_enter Tryz.func123, Tryz.ntmps123
  go_upto_region 1 with fail
  (try simp only [World.size_alloc, ho, hp])
  generalize hw2 : World.alloc (w.alloc _) _ = w2 at HX ⊢
  clear hw2 ho hp
  obtain ⟨o0, o1, o2, o3⟩ := HX.out.cells
  (go_wp2_with fail; refine (HW.out _).mono ?_; rintro e_ w_ ⟨he_, hw_⟩; subst he_; have hs_ := hw_.symm; clear hw_; subst hs_)
  clear HW
  go_upto_region 5 with fail
  have ea := Ea.out
  have eb := Eb.out
  clear Ea Eb
  subst ea
  subst eb
  go_loopw [6] (fun u wr => wr = w2 ∧ ∃ g : Nat, u = .int .u64 ((65536 + 2 * g : Nat) : Int) ∧ lo ≤ g ∧ g ≤ hi ∧ Hid (noF (hit39 E) hi (hi - lo) = noF (hit39 E) hi (hi - g))) (fun u _ => 98304 - (intOf u).toNat)
  case atStart => exact ⟨rfl, lo, by rw [hx0], Nat.le_refl _, hb2.1, hid rfl⟩
  case round =>
  obtain ⟨hwr, g, rfl, hg0, hg, HI⟩ := hrel
  have hwr' := hwr.symm
  clear hwr
  subst hwr'
  obtain ⟨x, hx⟩ : ∃ x, 65536 + 2 * g = x := ⟨_, rfl⟩
  rw [hx]
  by_cases hgl : g < hi
  rotate_left
  · as_aux_lemma =>
    have dq : decide ((x : Int) < (y : Int)) = false := decide_eq_false (by omega)
    have dqn : decide (x < y) = false := decide_eq_false (by omega)
    have HR2 : Hid (R = rsC 0 0 0) := hid (by rw [← HRR.out, HI.out, show hi - g = 0 by omega]; rfl)
    clear HRR HI
    go_wp2_with fail
    refine (HA.out _).mono ?_
    rintro e w3 ⟨rfl, hb3⟩
    have HX3 := hid (HX.out.below hb3)
    clear hb3 HX o0 o1 o2 o3
    go_wp2_with (refine wpList_store_blk rfl 46 _ _ rfl p rfl (rsC 0 0 0) rfl HX3.out.mx.b rfl I0.out (rsC_one _ _ _) ?_; intro w9 HB9 HU9)
    refine bodyPost_ret (results_blk (cs := (rsC 0 0 0)) Tryz.results123 rfl agg_rs HB9.out) rfl ?_
    exact ⟨by rw [HR2.out], hid (HX3.out.done HU9.out)⟩
  have dq : decide ((x : Int) < (y : Int)) = true := decide_eq_true (by omega)
  have dqn : decide (x < y) = true := decide_eq_true (by omega)
  have hxy : x < y := by omega
  have Hs := hid (HI.out.trans (noF_step hgl))
  clear HI
  have HO := hid (fun wz => wofM (2 * g) (by omega) wz)
  rw [hx] at HO
  obtain ⟨g2, hg2⟩ : ∃ g2, 2 * g = g2 := ⟨_, rfl⟩
  rw [hg2] at HO
  have eg : (g2 : Int).tdiv 2 = (g : Int) := by rw [Int.tdiv_eq_ediv_of_nonneg (by omega)]; omega
  have eg' : (g2 : Int) / 2 = (g : Int) := by omega
  have hgb : g < 16384 := by omega
  have hxb : x ≤ 98304 := by omega
  have c1 := HX.out.mx.md.mm.cells.2.1
  have c2 := HX.out.mx.md.mm.cells.2.2.1
  have cc := HX.out.mx.md.mm.count hgb
  have ck := HX.out.mx.md.mm.mark hgb
  have Hx2 : Hid (65536 + 2 * (g + 1) = x + 2) := hid (by omega)
  have Hx1 : Hid (65536 + 2 * g = x) := hid hx
  obtain ⟨cv, hcv⟩ : ∃ cv, E.C g = cv := ⟨_, rfl⟩
  obtain ⟨kv, hkv⟩ : ∃ kv, E.K g = kv := ⟨_, rfl⟩
  have Hh : Hid (hit39 E g = (!(cv == 0) && !kv)) := hid (by subst hcv; subst hkv; rfl)
  rw [hcv] at cc
  rw [hkv] at ck
  rw [Hh.out] at Hs
  clear hcv hkv Hh hx hg2
  by_cases h0 : cv = 0
  · as_aux_lemma =>
    have dz : ((cv : Int) != 0) = false := by simp; omega
    have HH : Hid ((!(cv == 0) && !kv) = false) := hid (by simp [h0])
    have HI2 : Hid (noF (hit39 E) hi (hi - lo) = noF (hit39 E) hi (hi - (g + 1))) := hid (by rw [Hs.out]; first | rfl | (simp only [HH.out]; rfl))
    clear HRR Hs
    (go_wp2_with fail; refine (HO.out _).mono ?_; rintro e_ w_ ⟨he_, hw_⟩; subst he_; have hs_ := hw_.symm; clear hw_; subst hs_)
    go_wp2
    exact ⟨⟨by trivial, g + 1, by rw [Hx2.out]; go_num, by omega, by omega, HI2⟩, by simp [intOf]; omega⟩
  · cases kv with
    | false =>
      as_aux_lemma =>
      have dz : ((cv : Int) != 0) = true := by simp; omega
      have HH : Hid ((!(cv == 0) && !false) = true) := hid (by simp [h0])
      have HR2 : Hid (R = rsC 0 (x : Int) 0) := hid (by rw [← HRR.out, Hs.out]; first | (simp only [HH.out, if_true]; rw [Hx1.out]) | (rw [if_pos rfl]; show rsC 0 ((65536 + 2 * g : Nat) : Int) 0 = _; rw [Hx1.out]))
      clear HRR Hs
      (go_wp2_with fail; refine (HO.out _).mono ?_; rintro e_ w_ ⟨he_, hw_⟩; subst he_; have hs_ := hw_.symm; clear hw_; subst hs_)
      go_wp2_with fail
      refine (ansM (x : Int) 0 _).mono ?_
      rintro e w3 ⟨rfl, hb3⟩
      have HX3 := hid (HX.out.below hb3)
      clear hb3 HX o0 o1 o2 o3
      go_wp2_with (refine wpList_store_blk rfl 46 _ _ rfl p rfl (rsC 0 (x : Int) 0) rfl HX3.out.mx.b rfl I0.out (rsC_one _ _ _) ?_; intro w9 HB9 HU9)
      refine bodyPost_ret (results_blk (cs := (rsC 0 (x : Int) 0)) Tryz.results123 rfl agg_rs HB9.out) rfl ?_
      exact ⟨by rw [HR2.out], hid (HX3.out.done HU9.out)⟩
    | true =>
      as_aux_lemma =>
      have dz : ((cv : Int) != 0) = true := by simp; omega
      have HH : Hid ((!(cv == 0) && !true) = false) := hid (by simp)
      have HI2 : Hid (noF (hit39 E) hi (hi - lo) = noF (hit39 E) hi (hi - (g + 1))) := hid (by rw [Hs.out]; first | rfl | (simp only [HH.out]; rfl))
      clear HRR Hs
      (go_wp2_with fail; refine (HO.out _).mono ?_; rintro e_ w_ ⟨he_, hw_⟩; subst he_; have hs_ := hw_.symm; clear hw_; subst hs_)
      go_wp2
      exact ⟨⟨by trivial, g + 1, by rw [Hx2.out]; go_num, by omega, by omega, HI2⟩, by simp [intOf]; omega⟩
end
end Go.Proofs.Qxb6500887aGreat
