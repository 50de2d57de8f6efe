/- The model's steps that take an operation: between (logged). -/
import Derived.Test.Qxb6500887aGreatAyV
import Derived.Deep.DeepCutAuto
namespace Go.Proofs.Qxb6500887aGreat
open Go.RowKit
set_option linter.unusedSimpArgs false
set_option linter.unusedVariables false
section
variable {l : ML} {E E' : ES} {w w' w0 w3 w4 : World} {o p r : Nat} {oc rs : List Value}
def btN (H : Nat → Bool) (lo n : Nat) : Nat := cnt (fun i => H (lo + i)) n
def btR (H : Nat → Bool) (al : Bool) (a b : Int) : List Value := if stC a b al = 0 then rsC 0 ((btN H (wIx a) (wIx b - wIx a) : Nat) : Int) 0 else rsC (stC a b al) 0 0
def hit66 (E : ES) : Nat → Bool := fun i => E.G i
set_option maxRecDepth 100000 in
set_option maxHeartbeats 1000000 in
theorem btw66 (h : MM l E w) (a b c : Int) (ha : U64 a) (hb : U64 b) (hc : U64 c) : Calls Tryz.prog 126 #[.pointer (some ⟨l.m, 0, none⟩), .agg #[.int .u8 66, .int .u64 a, .int .u64 b, .int .u64 c]] w fun e w' => e = .returned (.agg (btR (hit66 E) false a b).toArray) ∧ Hid (MD w l E w') := by
  have I0 := hid info_rs
  have HR := hid (fun (cd : Int) (wz : World) => refM cd wz)
  have HA := hid (fun wz => ansM 0 0 wz)
  obtain ⟨o, ho⟩ : ∃ o, w.heap.size = o := ⟨_, rfl⟩
  obtain ⟨p, hp⟩ : ∃ p, o + 1 = p := ⟨_, rfl⟩
  have HX : Hid (MP w l E o p [.int .u8 66, .int .u64 a, .int .u64 b, .int .u64 c] ((w.alloc (.cells #[.int .u8 66, .int .u64 a, .int .u64 b, .int .u64 c] 31)).alloc (.cells #[.int .u8 0, .int .u64 0, .int .u64 0, .string { data := #[] }, .int .i64 0, .int .i64 0, .int .i64 0, .int .i64 0, .int .i64 0, .int .i64 0, .int .i64 0, .int .i64 0, .int .i64 0, .int .i64 0, .int .i64 0, .int .i64 0, .int .i64 0, .int .i64 0, .int .i64 0, .int .i64 0, .int .u8 0, .int .i64 0, .int .i64 0, .int .i64 0, .int .i64 0, .int .i64 0, .int .i64 0, .int .i64 0, .int .i64 0, .int .i64 0, .int .i64 0, .int .i64 0, .int .i64 0, .int .i64 0, .int .i64 0] 46))) := hid (MP.start h ho hp)
  clear h
  have HW := hid (fun wz => ckbsM a b false wz)
  obtain ⟨R, hR⟩ : ∃ R, btR (hit66 E) false a b = R := ⟨_, rfl⟩
  rw [hR]
  unfold btR at hR
  by_cases hz : stC a b false = 0
  rotate_left
  · as_aux_lemma =>
    rw [if_neg hz] at hR
    rw [← hR]
    generalize stC a b false = cd at *
    have dc : (cd != 0) = true := by simpa using hz
    have dc' : (cd == 0) = false := by simpa using hz
    clear hR
    go_enter Tryz.func126, Tryz.ntmps126
    go_upto_region 1 with fail
    (try simp only [World.size_alloc, ho, hp])
    generalize hw2 : World.alloc (w.alloc _) _ = w2 at HX ⊢
    clear hw2 ho hp
    obtain ⟨o0, o1, o2, o3⟩ := HX.out.cells
    (go_wp2_with fail; refine (HW.out _).mono ?_; rintro e_ w_ ⟨he_, hw_⟩; subst he_; have hs_ := hw_.symm; clear hw_; subst hs_)
    go_wp2_with fail
    refine (HR.out cd _).mono ?_
    rintro e w3 ⟨rfl, hb3⟩
    have HX3 := hid (HX.out.below hb3)
    clear hb3 HX o0 o1 o2 o3
    go_wp2_with (refine wpList_store_blk rfl 46 _ _ rfl p rfl (rsC cd 0 0) rfl HX3.out.mx.b rfl I0.out (rsC_one _ _ _) ?_; intro w9 HB9 HU9)
    refine bodyPost_ret (results_blk (cs := (rsC cd 0 0)) Tryz.results126 rfl agg_rs HB9.out) rfl ?_
    exact ⟨rfl, hid (HX3.out.done HU9.out)⟩
  as_aux_lemma =>
  rw [if_pos hz] at hR
  rw [hz] at HW
  obtain ⟨s1, s2, s3, s4, _, _, _⟩ := stC_ok hz
  clear hz
  obtain ⟨lo, hlo⟩ : ∃ x, wIx a = x := ⟨_, rfl⟩
  obtain ⟨hi, hhi⟩ : ∃ x, wIx b = x := ⟨_, rfl⟩
  rw [hlo] at s1 s3
  rw [hhi] at s1 s2 s4
  rw [hlo, hhi] at hR
  have HRR := hid hR
  obtain ⟨x0, hx0⟩ : ∃ y, 65536 + lo = y := ⟨_, rfl⟩
  obtain ⟨y, hy⟩ : ∃ y, 65536 + hi = y := ⟨_, rfl⟩
  have Ea : Hid (a = (x0 : Int)) := hid (by omega)
  have Eb : Hid (b = (y : Int)) := hid (by omega)
  have hb2 : lo ≤ hi ∧ hi ≤ 32768 := by omega
  clear hR s1 s2 s3 s4 hlo hhi ha hb
  go_enter Tryz.func126, Tryz.ntmps126
  go_upto_region 1 with fail
  (try simp only [World.size_alloc, ho, hp])
  generalize hw2 : World.alloc (w.alloc _) _ = w2 at HX ⊢
  clear hw2 ho hp
  obtain ⟨o0, o1, o2, o3⟩ := HX.out.cells
  (go_wp2_with fail; refine (HW.out _).mono ?_; rintro e_ w_ ⟨he_, hw_⟩; subst he_; have hs_ := hw_.symm; clear hw_; subst hs_)
  clear HW
  go_upto_region 6 with fail
  have ea := Ea.out
  have eb := Eb.out
  clear Ea Eb
  subst ea
  subst eb
  go_loopw [6, 7] (fun t u wr => wr = w2 ∧ ∃ q : Nat, u = .int .u64 ((65536 + (lo + q) : Nat) : Int) ∧ t = .int .u64 ((btN (hit66 E) lo q : Nat) : Int) ∧ lo + q ≤ hi) (fun _ u _ => 98305 - (intOf u).toNat)
  case atStart => exact ⟨rfl, 0, by rw [show 65536 + (lo + 0) = x0 by omega], rfl, hb2.1⟩
  case round =>
  obtain ⟨hwr, q, rfl, rfl, hq⟩ := hrel
  have hwr' := hwr.symm
  clear hwr
  subst hwr'
  obtain ⟨i, hi'⟩ : ∃ i, lo + q = i := ⟨_, rfl⟩
  obtain ⟨x, hx⟩ : ∃ x, 65536 + i = x := ⟨_, rfl⟩
  rw [hi', hx]
  have hcb : btN (hit66 E) lo q ≤ q := cnt_bound _ _
  by_cases hgl : i < hi
  rotate_left
  · as_aux_lemma =>
    have dq : decide ((x : Int) < (y : Int)) = false := decide_eq_false (by omega)
    have dqn : decide (x < y) = false := decide_eq_false (by omega)
    have hxy : ¬ x < y := by omega
    obtain ⟨f, hf⟩ : ∃ f, btN (hit66 E) lo q = f := ⟨_, rfl⟩
    have HR2 : Hid (R = rsC 0 (f : Int) 0) := hid (by rw [← HRR.out, show hi - lo = q by omega, hf])
    rw [hf]
    clear HRR hf hcb
    go_wp2_with fail
    refine (ansM (f : Int) 0 _).mono ?_
    rintro e w3 ⟨rfl, hb3⟩
    have HX3 := hid (HX.out.below hb3)
    clear hb3 HX o0 o1 o2 o3
    go_wp2_with (refine wpList_store_blk rfl 46 _ _ rfl p rfl (rsC 0 (f : Int) 0) rfl HX3.out.mx.b rfl I0.out (rsC_one _ _ _) ?_; intro w9 HB9 HU9)
    refine bodyPost_ret (results_blk (cs := (rsC 0 (f : Int) 0)) Tryz.results126 rfl agg_rs HB9.out) rfl ?_
    exact ⟨by rw [HR2.out], hid (HX3.out.done HU9.out)⟩
  have dq : decide ((x : Int) < (y : Int)) = true := decide_eq_true (by omega)
  have dqn : decide (x < y) = true := decide_eq_true (by omega)
  have hxy : x < y := by omega
  have hib : i < 32768 := by omega
  have HO := hid (fun wz => wofM i (by omega) wz)
  rw [hx] at HO
  have c3 := HX.out.mx.md.mm.cells.2.2.2.1
  have cg := HX.out.mx.md.mm.log hib
  obtain ⟨kv, hkv⟩ : ∃ kv, E.G i = kv := ⟨_, rfl⟩
  rw [hkv] at cg
  have Hs : Hid (btN (hit66 E) lo (q + 1) = btN (hit66 E) lo q + kv.toNat) := hid (by rw [← hkv, ← hi']; rfl)
  have Hx2 : Hid (65536 + (lo + (q + 1)) = x + 1) := hid (by omega)
  obtain ⟨f, hf⟩ : ∃ f, btN (hit66 E) lo q = f := ⟨_, rfl⟩
  rw [hf] at Hs hcb ⊢
  have hfb : f ≤ 40000 := by omega
  have hq2 : lo + (q + 1) ≤ hi := by omega
  clear hkv hf hx hi' HRR
  cases kv with
  | false =>
    as_aux_lemma =>
    (go_wp2_with fail; refine (HO.out _).mono ?_; rintro e_ w_ ⟨he_, hw_⟩; subst he_; have hs_ := hw_.symm; clear hw_; subst hs_)
    go_wp2
    exact ⟨⟨by trivial, q + 1, by rw [Hx2.out]; go_num, by rw [Hs.out]; rfl, by omega⟩, by simp [intOf]; omega⟩
  | true =>
    as_aux_lemma =>
    (go_wp2_with fail; refine (HO.out _).mono ?_; rintro e_ w_ ⟨he_, hw_⟩; subst he_; have hs_ := hw_.symm; clear hw_; subst hs_)
    go_wp2
    exact ⟨⟨by trivial, q + 1, by rw [Hx2.out]; go_num, by rw [Hs.out]; show _ = Value.int .u64 ((f + 1 : Nat) : Int); go_num, by omega⟩, by simp [intOf]; omega⟩
end
end Go.Proofs.Qxb6500887aGreat
