/- The model's eachLogged, eachCounted (written by tools/mk_aw1.py). -/
import Derived.Test.Qxb6500887aGreatAx5
import Derived.Deep.DeepCutAuto
namespace Go.Proofs.Qxb6500887aGreat
open Go.RowKit
set_option linter.unusedSimpArgs false
set_option linter.unusedVariables false
section
variable {l : ML} {E E' : ES} {w w' w0 w3 w4 : World} {p : Nat}
def elH (E : ES) (lo : Nat) : Nat → Bool := fun i => E.G (lo + i)
def elF (lo : Nat) : Nat → Nat := fun i => 65536 + (lo + i)
def ecH (E : ES) (lo : Nat) : Nat → Bool := fun i => !(E.C (lo + i) == 0)
def ecF (E : ES) (lo : Nat) : Nat → Nat := fun i => 65536 + 2 * (lo + i) + E.C (lo + i)
/-- EachLogged. -/
def elR (E : ES) (a b : Int) (mo : Nat) : List Value := if stC a b false = 0 then rsC 0 ((evV (elH E (wIx a)) mo (wIx b - wIx a) : Nat) : Int) ((evT (elH E (wIx a)) (elF (wIx a)) mo (wIx b - wIx a) : Nat) : Int) else rsC (stC a b false) 0 0
/-- NextLogged. -/
def nlR (E : ES) (a b : Int) : List Value := if stC a b false = 0 then (match noF E.G (wIx b) (wIx b - wIx a) with
  | none => rsC 0 0 0
  | some i => rsC 0 ((65536 + i : Nat) : Int) 0) else rsC (stC a b false) 0 0
/-- EachCounted. -/
def ecR (E : ES) (b : Int) (mo : Nat) : List Value := if b < 0 ∨ 64 ≤ b then rsC 1 0 0 else rsC 0 ((evV (ecH E (256 * b.toNat)) mo 256 : Nat) : Int) ((evT (ecH E (256 * b.toNat)) (ecF E (256 * b.toNat)) mo 256 : Nat) : Int)
set_option maxRecDepth 100000 in
set_option maxHeartbeats 4000000 in
theorem eachLoggedM (h : MM l E w) (a b : Int) (mo : Nat) (hmo : mo < 18446744073709551616) (ha : U64 a) (hb : U64 b) : Calls Tryz.prog 124 #[.pointer (some ⟨l.m, 0, none⟩), .int .u64 a, .int .u64 b, .int .u64 (mo : Int), .bool false] w fun e w' => e = .returned (.agg (elR E a b mo).toArray) ∧ Hid (MD w l E w') := by
  have I0 := hid info_rs
  have HR := hid (fun (c : Int) (wz : World) => refM c wz)
  have HW := hid (fun wz => ckbsM a b false wz)
  obtain ⟨p, hp⟩ : ∃ p, w.heap.size = p := ⟨_, rfl⟩
  have HX := hid (MX.start h hp)
  dsimp only [rsC, rsT] at HX
  clear h
  obtain ⟨R, hR⟩ : ∃ R, elR E a b mo = R := ⟨_, rfl⟩
  rw [hR]
  unfold elR at hR
  by_cases hz : stC a b false = 0
  rotate_left
  · as_aux_lemma =>
    rw [if_neg hz] at hR
    rw [← hR]
    generalize stC a b false = cd at *
    have dc : (cd != 0) = true := by simpa using hz
    have dc' : (cd == 0) = false := by simpa using hz
    clear hR
    go_enter Tryz.func124, Tryz.ntmps124
    go_upto_region 1 with fail
    (try simp only [hp])
    generalize hw2 : w.alloc _ = w2 at HX ⊢
    clear hw2 hp
    (go_wp2_with fail; refine (HW.out _).mono ?_; rintro e_ w_ ⟨he_, hw_⟩; subst he_; have hs_ := hw_.symm; clear hw_; subst hs_)
    go_wp2_with fail
    refine (HR.out cd _).mono ?_
    rintro e w3 ⟨rfl, hb3⟩
    have HX3 := hid (HX.out.below hb3)
    clear hb3 HX
    go_wp2_with (refine wpList_store_blk rfl 46 _ _ rfl p rfl (rsC cd 0 0) rfl HX3.out.b rfl I0.out (rsC_one _ _ _) ?_; intro w9 HB9 HU9)
    refine bodyPost_ret (results_blk (cs := (rsC cd 0 0)) Tryz.results124 rfl agg_rs HB9.out) rfl ?_
    exact ⟨rfl, hid (HX3.out.done HU9.out)⟩
  as_aux_lemma =>
  rw [if_pos hz] at hR
  rw [hz] at HW
  obtain ⟨s1, s2, s3, s4, _, _, _⟩ := stC_ok hz
  clear hz
  obtain ⟨lo, hlo⟩ : ∃ x, wIx a = x := ⟨_, rfl⟩
  obtain ⟨hi, hhi⟩ : ∃ x, wIx b = x := ⟨_, rfl⟩
  rw [hlo] at s1 s3
  rw [hhi] at s1 s2 s4
  rw [hlo, hhi] at hR
  have HRR := hid hR
  obtain ⟨x0, hx0⟩ : ∃ y, 65536 + lo = y := ⟨_, rfl⟩
  obtain ⟨y, hy⟩ : ∃ y, 65536 + hi = y := ⟨_, rfl⟩
  have Ea : Hid (a = (x0 : Int)) := hid (by omega)
  have Eb : Hid (b = (y : Int)) := hid (by omega)
  have hb2 : lo ≤ hi ∧ hi ≤ 32768 := by omega
  clear hR s1 s2 s3 s4 hlo hhi ha hb
  go_enter Tryz.func124, Tryz.ntmps124
  go_upto_region 1 with fail
  (try simp only [hp])
  generalize hw2 : w.alloc _ = w2 at HX ⊢
  clear hw2 hp
  (go_wp2_with fail; refine (HW.out _).mono ?_; rintro e_ w_ ⟨he_, hw_⟩; subst he_; have hs_ := hw_.symm; clear hw_; subst hs_)
  clear HW
  go_upto_region 6 with fail
  have ea := Ea.out
  have eb := Eb.out
  clear Ea Eb
  subst ea
  subst eb
  go_loopw [12, 13, 14] (fun v t u wr => ∃ q V Tt : Nat, u = .int .u64 ((65536 + (lo + q) : Nat) : Int) ∧ v = .int .u64 (V : Int) ∧ t = .int .u64 (Tt : Int) ∧ lo + q ≤ hi ∧ (V ≤ 32768 ∧ Tt < 18446744073709551616 ∧ V < max 1 mo) ∧ Hid (V = cnt (elH E lo) q ∧ Tt = evT (elH E lo) (elF lo) mo q) ∧ Hid (MX w l E p wr)) (fun _ _ u _ => 98305 - (intOf u).toNat)
  case atStart => exact ⟨0, 0, 0, by rw [show 65536 + (lo + 0) = x0 by omega], rfl, rfl, hb2.1, ⟨by omega, by omega, by omega⟩, hid ⟨rfl, rfl⟩, HX⟩
  case round =>
  clear HX
  obtain ⟨q, V, Tt, rfl, rfl, rfl, hq, ⟨hV, hT, hVm⟩, HS, HX⟩ := hrel
  obtain ⟨i, hi'⟩ : ∃ i, lo + q = i := ⟨_, rfl⟩
  obtain ⟨x, hx⟩ : ∃ x, 65536 + i = x := ⟨_, rfl⟩
  rw [hi', hx]
  by_cases hgl : i < hi
  rotate_left
  · as_aux_lemma =>
    have dq : decide ((x : Int) < (y : Int)) = false := decide_eq_false (by omega)
    have dqn : decide (x < y) = false := decide_eq_false (by omega)
    have hxy : ¬ x < y := by omega
    have HR2 : Hid (R = rsC 0 (V : Int) (Tt : Int)) := hid (by
      obtain ⟨e1, e2⟩ := HS.out
      rw [← HRR.out, show hi - lo = q by omega, e2, show evV (elH E lo) mo q = V by unfold evV; rw [← e1]; omega])
    clear HRR HS
    go_wp2_with fail
    refine (ansM (V : Int) (Tt : Int) _).mono ?_
    rintro e w3 ⟨rfl, hb3⟩
    have HX3 := hid (HX.out.below hb3)
    clear hb3 HX
    go_wp2_with (refine wpList_store_blk rfl 46 _ _ rfl p rfl (rsC 0 (V : Int) (Tt : Int)) rfl HX3.out.b rfl I0.out (rsC_one _ _ _) ?_; intro w9 HB9 HU9)
    refine bodyPost_ret (results_blk (cs := (rsC 0 (V : Int) (Tt : Int))) Tryz.results124 rfl agg_rs HB9.out) rfl ?_
    exact ⟨by rw [HR2.out], hid (HX3.out.done HU9.out)⟩
  have dq : decide ((x : Int) < (y : Int)) = true := decide_eq_true (by omega)
  have dqn : decide (x < y) = true := decide_eq_true (by omega)
  have hxy : x < y := by omega
  have hib : i < 32768 := by omega
  have HO := hid (fun wz => wofM i (by omega) wz)
  rw [hx] at HO
  have Hx2 : Hid (65536 + (lo + (q + 1)) = x + 1) := hid (by omega)
  have hxb : x ≤ 98304 := by omega
  obtain ⟨kv, hkv⟩ : ∃ kv, E.G i = kv := ⟨_, rfl⟩
  have HKv : Hid (E.G (lo + q) = kv) := hid (by rw [hi']; exact hkv)
  go_upto_region 8 with fail
  obtain ⟨X', W, HTT, H0, hne, HCl⟩ := class_below wr
  have y1 : ∀ z, (W z).cell? ⟨l.m, 3, none⟩ = some (.slice (some ⟨l.g, 0, none⟩) 32768 32768) := fun z => (HX.out.below (HTT.out z)).md.mm.cells.2.2.2.1
  have y2 : ∀ z, (W z).cell? ⟨l.g, i, none⟩ = some (.bool kv) := fun z => by rw [← hkv]; exact (HX.out.below (HTT.out z)).md.mm.log hib
  clear hkv
  refine wp_region_class_lastT W rfl (by kernel_rfl) (by kernel_rfl) (by kernel_rfl) H0.out ?_
  dsimp only [List.dropLast, List.getLast]
  repeat (go_big_quiet_step (with_reducible exact Calls.class_same (HO.out _)))
  refine wpQuiet_nil ?_
  intro z
  have HZ := hid (HX.out.below (HTT.out z))
  generalize W z = wz at HZ ⊢
  clear y1 y2 H0 HTT HCl hne HX
  cases kv with
  | false =>
    as_aux_lemma =>
    go_wp2
    exact ⟨⟨q + 1, V, Tt, by rw [Hx2.out]; go_num, rfl, rfl, by omega, ⟨hV, hT, hVm⟩, hid (by
      obtain ⟨e1, e2⟩ := HS.out
      obtain ⟨g1, g2⟩ := ev_skip (f := elF lo) (mo := mo) (show elH E lo q = false from HKv.out)
      exact ⟨by rw [g1]; exact e1, by rw [g2]; exact e2⟩), HZ⟩, by simp [intOf]; omega⟩
  | true =>
    as_aux_lemma =>
    obtain ⟨V1, hV1⟩ : ∃ V1, V + 1 = V1 := ⟨_, rfl⟩
    have eV : (V : Int) + 1 = (V1 : Int) := by omega
    have hV1b : V1 ≤ 40000 := by omega
    obtain ⟨T1, hT1⟩ : ∃ T1, (Tt + x) % 18446744073709551616 = T1 := ⟨_, rfl⟩
    have eT : IntKind.u64.wrap ((Tt : Int) + (x : Int)) = (T1 : Int) := by rw [IntKind.wrap_u64]; omega
    have hT1b : T1 < 18446744073709551616 := by omega
    have HV1 : Hid (V1 = cnt (elH E lo) (q + 1) ∧ T1 = evT (elH E lo) (elF lo) mo (q + 1) ∧ V1 = V + 1) := hid (by
      obtain ⟨e1, e2⟩ := HS.out
      obtain ⟨g1, g2⟩ := ev_hit (f := elF lo) (mo := mo) (show elH E lo q = true from HKv.out) (by rw [← e1]; exact hVm)
      refine ⟨by rw [g1]; omega, ?_, hV1.symm⟩
      rw [g2, ← e2, ← hT1, ← hx, ← hi']
      rfl)
    have hV1q : V1 ≤ q + 1 := by rw [HV1.out.1]; exact cnt_bound _ _
    clear hV1 hT1
    by_cases hmV : mo ≤ V1
    · as_aux_lemma =>
      have dm : decide ((V1 : Int) ≥ (mo : Int)) = true := decide_eq_true (by omega)
      have dm' : decide ((mo : Int) ≤ (V1 : Int)) = true := decide_eq_true (by omega)
      have dmn : decide (mo ≤ V1) = true := decide_eq_true hmV
      have HR2 : Hid (R = rsC 0 (V1 : Int) (T1 : Int)) := hid (by
        obtain ⟨e1, e2, e3⟩ := HV1.out
        obtain ⟨g1, g2⟩ := ev_stop (H := elH E lo) (f := elF lo) (mo := mo) (q := q + 1) (n := hi - lo) (by rw [← e1]; omega) (by omega)
        rw [← HRR.out, g1, g2, ← e2, show max 1 mo = V1 by omega])
      clear HRR HS HV1
      go_wp2_with fail
      refine (ansM (V1 : Int) (T1 : Int) _).mono ?_
      rintro e w3 ⟨rfl, hb3⟩
      have HX3 := hid (HZ.out.below hb3)
      clear hb3 HZ
      go_wp2_with (refine wpList_store_blk rfl 46 _ _ rfl p rfl (rsC 0 (V1 : Int) (T1 : Int)) rfl HX3.out.b rfl I0.out (rsC_one _ _ _) ?_; intro w9 HB9 HU9)
      refine bodyPost_ret (results_blk (cs := (rsC 0 (V1 : Int) (T1 : Int))) Tryz.results124 rfl agg_rs HB9.out) rfl ?_
      exact ⟨by rw [HR2.out], hid (HX3.out.done HU9.out)⟩
    · as_aux_lemma =>
      have dm : decide ((V1 : Int) ≥ (mo : Int)) = false := decide_eq_false (by omega)
      have dm' : decide ((mo : Int) ≤ (V1 : Int)) = false := decide_eq_false (by omega)
      have dmn : decide (mo ≤ V1) = false := decide_eq_false hmV
      go_wp2
      exact ⟨⟨q + 1, V1, T1, by rw [Hx2.out]; go_num, rfl, rfl, by omega, ⟨by omega, hT1b, by omega⟩, hid ⟨HV1.out.1, HV1.out.2.1⟩, HZ⟩, by simp [intOf]; omega⟩
set_option maxRecDepth 100000 in
set_option maxHeartbeats 4000000 in
theorem nextLoggedM (h : MM l E w) (a b : Int) (mo : Nat) (hmo : mo < 18446744073709551616) (ha : U64 a) (hb : U64 b) : Calls Tryz.prog 124 #[.pointer (some ⟨l.m, 0, none⟩), .int .u64 a, .int .u64 b, .int .u64 (mo : Int), .bool true] w fun e w' => e = .returned (.agg (nlR E a b).toArray) ∧ Hid (MD w l E w') := by
  have I0 := hid info_rs
  have HR := hid (fun (c : Int) (wz : World) => refM c wz)
  have HW := hid (fun wz => ckbsM a b false wz)
  obtain ⟨p, hp⟩ : ∃ p, w.heap.size = p := ⟨_, rfl⟩
  have HX := hid (MX.start h hp)
  dsimp only [rsC, rsT] at HX
  clear h
  obtain ⟨R, hR⟩ : ∃ R, nlR E a b = R := ⟨_, rfl⟩
  rw [hR]
  unfold nlR at hR
  by_cases hz : stC a b false = 0
  rotate_left
  · as_aux_lemma =>
    rw [if_neg hz] at hR
    rw [← hR]
    generalize stC a b false = cd at *
    have dc : (cd != 0) = true := by simpa using hz
    have dc' : (cd == 0) = false := by simpa using hz
    clear hR
    go_enter Tryz.func124, Tryz.ntmps124
    go_upto_region 1 with fail
    (try simp only [hp])
    generalize hw2 : w.alloc _ = w2 at HX ⊢
    clear hw2 hp
    (go_wp2_with fail; refine (HW.out _).mono ?_; rintro e_ w_ ⟨he_, hw_⟩; subst he_; have hs_ := hw_.symm; clear hw_; subst hs_)
    go_wp2_with fail
    refine (HR.out cd _).mono ?_
    rintro e w3 ⟨rfl, hb3⟩
    have HX3 := hid (HX.out.below hb3)
    clear hb3 HX
    go_wp2_with (refine wpList_store_blk rfl 46 _ _ rfl p rfl (rsC cd 0 0) rfl HX3.out.b rfl I0.out (rsC_one _ _ _) ?_; intro w9 HB9 HU9)
    refine bodyPost_ret (results_blk (cs := (rsC cd 0 0)) Tryz.results124 rfl agg_rs HB9.out) rfl ?_
    exact ⟨rfl, hid (HX3.out.done HU9.out)⟩
  as_aux_lemma =>
  rw [if_pos hz] at hR
  rw [hz] at HW
  obtain ⟨s1, s2, s3, s4, _, _, _⟩ := stC_ok hz
  clear hz
  obtain ⟨lo, hlo⟩ : ∃ x, wIx a = x := ⟨_, rfl⟩
  obtain ⟨hi, hhi⟩ : ∃ x, wIx b = x := ⟨_, rfl⟩
  rw [hlo] at s1 s3
  rw [hhi] at s1 s2 s4
  rw [hlo, hhi] at hR
  have HRR := hid hR
  obtain ⟨x0, hx0⟩ : ∃ y, 65536 + lo = y := ⟨_, rfl⟩
  obtain ⟨y, hy⟩ : ∃ y, 65536 + hi = y := ⟨_, rfl⟩
  have Ea : Hid (a = (x0 : Int)) := hid (by omega)
  have Eb : Hid (b = (y : Int)) := hid (by omega)
  have hb2 : lo ≤ hi ∧ hi ≤ 32768 := by omega
  clear hR s1 s2 s3 s4 hlo hhi ha hb
  go_enter Tryz.func124, Tryz.ntmps124
  go_upto_region 1 with fail
  (try simp only [hp])
  generalize hw2 : w.alloc _ = w2 at HX ⊢
  clear hw2 hp
  (go_wp2_with fail; refine (HW.out _).mono ?_; rintro e_ w_ ⟨he_, hw_⟩; subst he_; have hs_ := hw_.symm; clear hw_; subst hs_)
  clear HW
  go_upto_region 6 with fail
  have ea := Ea.out
  have eb := Eb.out
  clear Ea Eb
  subst ea
  subst eb
  go_loopw [12, 13, 14] (fun v t u wr => v = .int .u64 0 ∧ t = .int .u64 0 ∧ ∃ q : Nat, u = .int .u64 ((65536 + (lo + q) : Nat) : Int) ∧ lo + q ≤ hi ∧ Hid (noF E.G hi (hi - lo) = noF E.G hi (hi - (lo + q))) ∧ Hid (MX w l E p wr)) (fun _ _ u _ => 98305 - (intOf u).toNat)
  case atStart => exact ⟨rfl, rfl, 0, by rw [show 65536 + (lo + 0) = x0 by omega], hb2.1, hid rfl, HX⟩
  case round =>
  clear HX
  obtain ⟨rfl, rfl, q, rfl, hq, HS, HX⟩ := hrel
  obtain ⟨i, hi'⟩ : ∃ i, lo + q = i := ⟨_, rfl⟩
  obtain ⟨x, hx⟩ : ∃ x, 65536 + i = x := ⟨_, rfl⟩
  rw [hi', hx]
  by_cases hgl : i < hi
  rotate_left
  · as_aux_lemma =>
    have dq : decide ((x : Int) < (y : Int)) = false := decide_eq_false (by omega)
    have dqn : decide (x < y) = false := decide_eq_false (by omega)
    have hxy : ¬ x < y := by omega
    have HR2 : Hid (R = rsC 0 0 0) := hid (by rw [← HRR.out, HS.out, show hi - (lo + q) = 0 by omega]; rfl)
    clear HRR HS
    go_wp2_with fail
    refine (ansM 0 0 _).mono ?_
    rintro e w3 ⟨rfl, hb3⟩
    have HX3 := hid (HX.out.below hb3)
    clear hb3 HX
    go_wp2_with (refine wpList_store_blk rfl 46 _ _ rfl p rfl (rsC 0 0 0) rfl HX3.out.b rfl I0.out (rsC_one _ _ _) ?_; intro w9 HB9 HU9)
    refine bodyPost_ret (results_blk (cs := (rsC 0 0 0)) Tryz.results124 rfl agg_rs HB9.out) rfl ?_
    exact ⟨by rw [HR2.out], hid (HX3.out.done HU9.out)⟩
  have dq : decide ((x : Int) < (y : Int)) = true := decide_eq_true (by omega)
  have dqn : decide (x < y) = true := decide_eq_true (by omega)
  have hxy : x < y := by omega
  have hib : i < 32768 := by omega
  have HO := hid (fun wz => wofM i (by omega) wz)
  rw [hx] at HO
  have Hx2 : Hid (65536 + (lo + (q + 1)) = x + 1) := hid (by omega)
  have hxb : x ≤ 98304 := by omega
  obtain ⟨kv, hkv⟩ : ∃ kv, E.G i = kv := ⟨_, rfl⟩
  have HKv : Hid (E.G (lo + q) = kv) := hid (by rw [hi']; exact hkv)
  go_upto_region 8 with fail
  obtain ⟨X', W, HTT, H0, hne, HCl⟩ := class_below wr
  have y1 : ∀ z, (W z).cell? ⟨l.m, 3, none⟩ = some (.slice (some ⟨l.g, 0, none⟩) 32768 32768) := fun z => (HX.out.below (HTT.out z)).md.mm.cells.2.2.2.1
  have y2 : ∀ z, (W z).cell? ⟨l.g, i, none⟩ = some (.bool kv) := fun z => by rw [← hkv]; exact (HX.out.below (HTT.out z)).md.mm.log hib
  clear hkv
  refine wp_region_class_lastT W rfl (by kernel_rfl) (by kernel_rfl) (by kernel_rfl) H0.out ?_
  dsimp only [List.dropLast, List.getLast]
  repeat (go_big_quiet_step (with_reducible exact Calls.class_same (HO.out _)))
  refine wpQuiet_nil ?_
  intro z
  have HZ := hid (HX.out.below (HTT.out z))
  generalize W z = wz at HZ ⊢
  clear y1 y2 H0 HTT HCl hne HX
  cases kv with
  | false =>
    as_aux_lemma =>
    go_wp2
    exact ⟨⟨rfl, rfl, q + 1, by rw [Hx2.out]; go_num, by omega, hid (by rw [HS.out, noF_step (by omega), if_neg (by rw [HKv.out]; decide)]; rfl), HZ⟩, by simp [intOf]; omega⟩
  | true =>
    as_aux_lemma =>
    have HR2 : Hid (R = rsC 0 (x : Int) 0) := hid (by
      rw [← HRR.out, HS.out, noF_step (by omega), if_pos HKv.out]
      show rsC 0 ((65536 + (lo + q) : Nat) : Int) 0 = _
      rw [hi', hx])
    clear HRR HS
    go_wp2_with fail
    refine (ansM (x : Int) 0 _).mono ?_
    rintro e w3 ⟨rfl, hb3⟩
    have HX3 := hid (HZ.out.below hb3)
    clear hb3 HZ
    go_wp2_with (refine wpList_store_blk rfl 46 _ _ rfl p rfl (rsC 0 (x : Int) 0) rfl HX3.out.b rfl I0.out (rsC_one _ _ _) ?_; intro w9 HB9 HU9)
    refine bodyPost_ret (results_blk (cs := (rsC 0 (x : Int) 0)) Tryz.results124 rfl agg_rs HB9.out) rfl ?_
    exact ⟨by rw [HR2.out], hid (HX3.out.done HU9.out)⟩
set_option maxRecDepth 100000 in
set_option maxHeartbeats 4000000 in
theorem eachCountedM (h : MM l E w) (b : Int) (mo : Nat) (hmo : mo < 18446744073709551616) : Calls Tryz.prog 125 #[.pointer (some ⟨l.m, 0, none⟩), .int .i64 b, .int .u64 (mo : Int)] w fun e w' => e = .returned (.agg (ecR E b mo).toArray) ∧ Hid (MD w l E w') := by
  have I0 := hid info_rs
  have HR := hid (fun (c : Int) (wz : World) => refM c wz)
  have HB := hid (fun wz => bbM b wz)
  obtain ⟨p, hp⟩ : ∃ p, w.heap.size = p := ⟨_, rfl⟩
  have HX := hid (MX.start h hp)
  dsimp only [rsC, rsT] at HX
  clear h
  obtain ⟨R, hR⟩ : ∃ R, ecR E b mo = R := ⟨_, rfl⟩
  rw [hR]
  unfold ecR at hR
  by_cases hc : b < 0 ∨ 64 ≤ b
  · as_aux_lemma =>
    rw [if_pos hc] at hR
    rw [← hR]
    rw [decide_eq_true hc] at HB
    clear hc hR
    go_enter Tryz.func125, Tryz.ntmps125
    go_upto_region 1 with fail
    (try simp only [hp])
    generalize hw2 : w.alloc _ = w2 at HX ⊢
    clear hw2 hp
    (go_wp2_with fail; refine (HB.out _).mono ?_; rintro e_ w_ ⟨he_, hw_⟩; subst he_; have hs_ := hw_.symm; clear hw_; subst hs_)
    go_wp2_with fail
    refine (HR.out 1 _).mono ?_
    rintro e w3 ⟨rfl, hb3⟩
    have HX3 := hid (HX.out.below hb3)
    clear hb3 HX
    go_wp2_with (refine wpList_store_blk rfl 46 _ _ rfl p rfl (rsC 1 0 0) rfl HX3.out.b rfl I0.out (rsC_one _ _ _) ?_; intro w9 HB9 HU9)
    refine bodyPost_ret (results_blk (cs := (rsC 1 0 0)) Tryz.results125 rfl agg_rs HB9.out) rfl ?_
    exact ⟨rfl, hid (HX3.out.done HU9.out)⟩
  as_aux_lemma =>
  rw [decide_eq_false hc] at HB
  rw [if_neg hc] at hR
  obtain ⟨c, rfl⟩ : ∃ c : Nat, b = (c : Int) := ⟨b.toNat, by omega⟩
  have hc2 : c < 64 := by omega
  rw [show ((c : Int)).toNat = c by omega] at hR
  obtain ⟨lo, hlo⟩ : ∃ lo, 256 * c = lo := ⟨_, rfl⟩
  rw [hlo] at hR
  have HRR := hid hR
  obtain ⟨W0, hW0⟩ : ∃ W0, 512 * c = W0 := ⟨_, rfl⟩
  obtain ⟨W1, hW1⟩ : ∃ W1, 512 * c + 512 = W1 := ⟨_, rfl⟩
  have e0 : (c : Int) * 512 = (W0 : Int) := by omega
  have e1 : ((c : Int) + 1) * 512 = (W1 : Int) := by omega
  have hw0 : W0 ≤ 2 * lo ∧ 2 * lo ≤ W0 ∧ W1 ≤ 2 * lo + 512 ∧ 2 * lo + 512 ≤ W1 ∧ W1 ≤ 32768 := by omega
  clear hR hc hlo hW0 hW1
  go_enter Tryz.func125, Tryz.ntmps125
  go_upto_region 1 with fail
  (try simp only [hp])
  generalize hw2 : w.alloc _ = w2 at HX ⊢
  clear hw2 hp
  (go_wp2_with fail; refine (HB.out _).mono ?_; rintro e_ w_ ⟨he_, hw_⟩; subst he_; have hs_ := hw_.symm; clear hw_; subst hs_)
  clear HB
  go_upto_region 5 with fail
  go_loopw [7, 8, 9] (fun v t u wr => ∃ q V Tt W2 : Nat, u = .int .i64 (W2 : Int) ∧ v = .int .u64 (V : Int) ∧ t = .int .u64 (Tt : Int) ∧ (W2 ≤ 2 * (lo + q) ∧ 2 * (lo + q) ≤ W2) ∧ q ≤ 256 ∧ (V ≤ 32768 ∧ Tt < 18446744073709551616 ∧ V < max 1 mo) ∧ Hid (V = cnt (ecH E lo) q ∧ Tt = evT (ecH E lo) (ecF E lo) mo q) ∧ Hid (MX w l E p wr)) (fun _ _ u _ => 40000 - (intOf u).toNat)
  case atStart => exact ⟨0, 0, 0, W0, rfl, rfl, rfl, ⟨by omega, by omega⟩, by omega, ⟨by omega, by omega, by omega⟩, hid ⟨rfl, rfl⟩, HX⟩
  case round =>
  clear HX
  obtain ⟨q, V, Tt, W2, rfl, rfl, rfl, hW2, hq, ⟨hV, hT, hVm⟩, HS, HX⟩ := hrel
  by_cases hgl : q < 256
  rotate_left
  · as_aux_lemma =>
    have dq : decide ((W2 : Int) < (W1 : Int)) = false := decide_eq_false (by omega)
    have dqn : decide (W2 < W1) = false := decide_eq_false (by omega)
    have HR2 : Hid (R = rsC 0 (V : Int) (Tt : Int)) := hid (by
      obtain ⟨e1, e2⟩ := HS.out
      rw [← HRR.out, show 256 = q by omega, e2, show evV (ecH E lo) mo q = V by unfold evV; rw [← e1]; omega])
    clear HRR HS
    go_wp2_with fail
    refine (ansM (V : Int) (Tt : Int) _).mono ?_
    rintro e w3 ⟨rfl, hb3⟩
    have HX3 := hid (HX.out.below hb3)
    clear hb3 HX
    go_wp2_with (refine wpList_store_blk rfl 46 _ _ rfl p rfl (rsC 0 (V : Int) (Tt : Int)) rfl HX3.out.b rfl I0.out (rsC_one _ _ _) ?_; intro w9 HB9 HU9)
    refine bodyPost_ret (results_blk (cs := (rsC 0 (V : Int) (Tt : Int))) Tryz.results125 rfl agg_rs HB9.out) rfl ?_
    exact ⟨by rw [HR2.out], hid (HX3.out.done HU9.out)⟩
  have dq : decide ((W2 : Int) < (W1 : Int)) = true := decide_eq_true (by omega)
  have dqn : decide (W2 < W1) = true := decide_eq_true (by omega)
  obtain ⟨g, hg⟩ : ∃ g, lo + q = g := ⟨_, rfl⟩
  have Hg := hid hg
  have hgb : g < 16384 := by omega
  have eg : (W2 : Int).tdiv 2 = (g : Int) := by rw [Int.tdiv_eq_ediv_of_nonneg (by omega)]; omega
  have eg' : (W2 : Int) / 2 = (g : Int) := by omega
  have eW : (W2 : Int) + 2 = ((W2 + 2 : Nat) : Int) := by omega
  obtain ⟨W3, hW3⟩ : ∃ W3, W2 + 2 = W3 := ⟨_, rfl⟩
  rw [hW3] at eW
  have hW3b : W3 ≤ 40000 := by omega
  have hW3e : W3 ≤ 2 * (lo + (q + 1)) ∧ 2 * (lo + (q + 1)) ≤ W3 := by omega
  clear hW3
  have c1 := HX.out.md.mm.cells.2.1
  have cc := HX.out.md.mm.count hgb
  have hcl := HX.out.md.mm.cl g
  obtain ⟨cv, hcv⟩ : ∃ cv, E.C g = cv := ⟨_, rfl⟩
  rw [hcv] at cc hcl
  have HCv : Hid (E.C (lo + q) = cv) := hid (by rw [hg]; exact hcv)
  clear hcv hg
  by_cases hcz : cv = 0
  · as_aux_lemma =>
    have d0 : ((cv : Int) == 0) = true := by simp; omega
    have HN : Hid (V = cnt (ecH E lo) (q + 1) ∧ Tt = evT (ecH E lo) (ecF E lo) mo (q + 1)) := hid (by
      obtain ⟨e1, e2⟩ := HS.out
      obtain ⟨g1, g2⟩ := ev_skip (f := ecF E lo) (mo := mo) (show ecH E lo q = false by unfold ecH; rw [HCv.out, hcz]; rfl)
      exact ⟨by rw [g1]; exact e1, by rw [g2]; exact e2⟩)
    clear HS hcz
    go_wp2
    exact ⟨⟨q + 1, V, Tt, W3, rfl, rfl, rfl, hW3e, by omega, ⟨hV, hT, hVm⟩, HN, HX⟩, by simp [intOf]; omega⟩
  as_aux_lemma =>
  have d0 : ((cv : Int) == 0) = false := by simp; omega
  obtain ⟨V1, hV1⟩ : ∃ V1, V + 1 = V1 := ⟨_, rfl⟩
  have eV : (V : Int) + 1 = (V1 : Int) := by omega
  have hV1b : V1 ≤ 40000 := by omega
  obtain ⟨ad, had⟩ : ∃ ad, 65536 + W2 = ad := ⟨_, rfl⟩
  have HAd := hid (fun wz => adrM W2 (by omega) wz)
  rw [had] at HAd
  obtain ⟨a2, ha2⟩ : ∃ a2, ad + cv = a2 := ⟨_, rfl⟩
  have ea2 : (ad : Int) + (cv : Int) = (a2 : Int) := by omega
  have ha2b : a2 ≤ 200000 := by omega
  obtain ⟨T1, hT1⟩ : ∃ T1, (Tt + a2) % 18446744073709551616 = T1 := ⟨_, rfl⟩
  have eT : IntKind.u64.wrap ((Tt : Int) + (a2 : Int)) = (T1 : Int) := by rw [IntKind.wrap_u64]; omega
  have hT1b : T1 < 18446744073709551616 := by omega
  have HV1 : Hid (V1 = cnt (ecH E lo) (q + 1) ∧ T1 = evT (ecH E lo) (ecF E lo) mo (q + 1) ∧ V1 = V + 1) := hid (by
    obtain ⟨e1, e2⟩ := HS.out
    obtain ⟨g1, g2⟩ := ev_hit (f := ecF E lo) (mo := mo) (show ecH E lo q = true by unfold ecH; rw [HCv.out]; simpa using hcz) (by rw [← e1]; exact hVm)
    refine ⟨by rw [g1]; omega, ?_, hV1.symm⟩
    rw [g2, ← e2, ← hT1, ← ha2, ← had, show W2 = 2 * (lo + q) by omega]
    unfold ecF
    rw [HCv.out])
  have hV1q : V1 ≤ q + 1 := by rw [HV1.out.1]; exact cnt_bound _ _
  have HCG := hid (show E.C g = cv by rw [← Hg.out]; exact HCv.out)
  clear hV1 hT1 had ha2 HCv hcz
  go_upto_region 9 with fail
  clear c1 cc
  obtain ⟨X', W, HTT, H0, hne, HCl⟩ := class_below wr
  have y1 : ∀ z, (W z).cell? ⟨l.m, 1, none⟩ = some (.slice (some ⟨l.c, 0, none⟩) 16384 16384) := fun z => (HX.out.below (HTT.out z)).md.mm.cells.2.1
  have y2 : ∀ z, (W z).cell? ⟨l.c, g, none⟩ = some (.int .u64 (cv : Int)) := fun z => by
    have := (HX.out.below (HTT.out z)).md.mm.count hgb
    rw [HCG.out] at this
    exact this
  refine wp_region_class_lastT W rfl (by kernel_rfl) (by kernel_rfl) (by kernel_rfl) H0.out ?_
  dsimp only [List.dropLast, List.getLast]
  repeat (go_big_quiet_step (with_reducible exact Calls.class_same (HAd.out _)))
  refine wpQuiet_nil ?_
  intro z
  have HZ := hid (HX.out.below (HTT.out z))
  generalize W z = wz at HZ ⊢
  clear y1 y2 H0 HTT HCl hne HX
  by_cases hmV : mo ≤ V1
  · as_aux_lemma =>
    have dm : decide ((V1 : Int) ≥ (mo : Int)) = true := decide_eq_true (by omega)
    have dm' : decide ((mo : Int) ≤ (V1 : Int)) = true := decide_eq_true (by omega)
    have dmn : decide (mo ≤ V1) = true := decide_eq_true hmV
    have HR2 : Hid (R = rsC 0 (V1 : Int) (T1 : Int)) := hid (by
      obtain ⟨e1, e2, e3⟩ := HV1.out
      obtain ⟨g1, g2⟩ := ev_stop (H := ecH E lo) (f := ecF E lo) (mo := mo) (q := q + 1) (n := 256) (by rw [← e1]; omega) (by omega)
      rw [← HRR.out, g1, g2, ← e2, show max 1 mo = V1 by omega])
    clear HRR HS HV1
    go_wp2_with fail
    refine (ansM (V1 : Int) (T1 : Int) _).mono ?_
    rintro e w3 ⟨rfl, hb3⟩
    have HX3 := hid (HZ.out.below hb3)
    clear hb3 HZ
    go_wp2_with (refine wpList_store_blk rfl 46 _ _ rfl p rfl (rsC 0 (V1 : Int) (T1 : Int)) rfl HX3.out.b rfl I0.out (rsC_one _ _ _) ?_; intro w9 HB9 HU9)
    refine bodyPost_ret (results_blk (cs := (rsC 0 (V1 : Int) (T1 : Int))) Tryz.results125 rfl agg_rs HB9.out) rfl ?_
    exact ⟨by rw [HR2.out], hid (HX3.out.done HU9.out)⟩
  · as_aux_lemma =>
    have dm : decide ((V1 : Int) ≥ (mo : Int)) = false := decide_eq_false (by omega)
    have dm' : decide ((mo : Int) ≤ (V1 : Int)) = false := decide_eq_false (by omega)
    have dmn : decide (mo ≤ V1) = false := decide_eq_false hmV
    go_wp2
    exact ⟨⟨q + 1, V1, T1, W3, rfl, rfl, rfl, hW3e, by omega, ⟨by omega, hT1b, by omega⟩, hid ⟨HV1.out.1, HV1.out.2.1⟩, HZ⟩, by simp [intOf]; omega⟩
end
end Go.Proofs.Qxb6500887aGreat
