/- The model's describe (written by tools/mk_aw9.py). -/
import Derived.Test.Qxb6500887aGreatAw8
import Derived.Deep.DeepCutAuto
namespace Go.Proofs.Qxb6500887aGreat
open Go.RowKit
set_option linter.unusedSimpArgs false
set_option linter.unusedVariables false
def lgB (E : ES) (k : Nat) (i : Nat) : UInt8 := if E.G (k + i) = true then 49 else 48
/-- What is written of an object: the parts. -/
def dsA (E : ES) (x : Nat) : List UInt8 := placeL x ++ [32, 115, 105, 122, 101, 61] ++ dgL (szN E.W (gIx (x : Int))) ++ [32, 114, 101, 102, 115, 61] ++ dgL (rfN E.W (gIx (x : Int))) ++ ([32, 99, 111, 117, 110, 116, 61] ++ dgL (E.C (gIx (x : Int))))
def dsB (E : ES) (x : Nat) : List UInt8 := dsA E x ++ (if E.K (gIx (x : Int)) = true then [32, 109, 97, 114, 107, 61, 49] else [32, 109, 97, 114, 107, 61, 48])
def dsC (E : ES) (x : Nat) : List UInt8 := dsB E x ++ [32, 108, 111, 103, 61] ++ (if rfN E.W (gIx (x : Int)) = 0 then [45] else [])
def dsD (E : ES) (x q : Nat) : List UInt8 := dsC E x ++ bmF (lgB E (2 * gIx (x : Int) + 1)) q
def dsL (E : ES) (x : Nat) : List UInt8 := if onE E.W (x : Int) = 0 then dsD E x (min (rfN E.W (gIx (x : Int))) 32) ++ (if 32 < rfN E.W (gIx (x : Int)) then [43] else []) else placeL x ++ [58, 32] ++ erL (onE E.W (x : Int))
section
variable {l : ML} {E : ES} {w w' w0 : World}
theorem onE_op {W : Nat → Nat} {x : Int} (h : onE W x = 0) : wantO x = 0 ∧ opW W (gIx x) = 0 ∧ gIx x < 16384 := by
  unfold onE at h
  by_cases h1 : wantO x = 0
  · rw [if_pos h1] at h
    exact ⟨h1, h, (gIx_of h1).2.1⟩
  · rw [if_neg h1] at h
    exact absurd h h1
theorem dsA_len {E : ES} {x : Nat} (hx : x < 18446744073709551616) (hg : gIx (x : Int) < 16384) (ho : opW E.W (gIx (x : Int)) = 0) (hC : E.C (gIx (x : Int)) ≤ 3) : (dsA E x).length ≤ 200 := by
  have k0 := placeL_len hx
  have o := opW_ok ho hg
  have k1 : (dgL (szN E.W (gIx (x : Int)))).length ≤ 20 := dgL_20 (by omega)
  have k2 : (dgL (rfN E.W (gIx (x : Int)))).length ≤ 20 := dgL_20 (by omega)
  have k3 : (dgL (E.C (gIx (x : Int)))).length ≤ 20 := dgL_20 (by omega)
  unfold dsA
  simp only [List.length_append, List.length_cons, List.length_nil]
  omega
set_option maxRecDepth 100000 in
set_option maxHeartbeats 4000000 in
theorem describeM (h : MM l E w) (x : Nat) (hx : x < 18446744073709551616) : Calls Tryz.prog 205 #[.pointer (some ⟨l.m, 0, none⟩), .int .u64 (x : Int)] w fun e w' => e = .returned (.string (bsA (dsL E x))) ∧ w' = w := by
  have HOp := hid (fun wz (hz : MM l E wz) => opM hz (x : Int))
  have HPl := hid (fun wz => placeM x hx wz)
  have HM := hid h
  obtain ⟨R, hR⟩ : ∃ R, dsL E x = R := ⟨_, rfl⟩
  rw [hR]
  unfold dsL at hR
  have kp : (bsA (placeL x)).size ≤ 70 := placeL_len hx
  by_cases hc : onE E.W (x : Int) = 0
  rotate_left
  · as_aux_lemma =>
    rw [if_neg hc] at hR
    unfold owR at HOp
    rw [if_neg hc] at HOp
    have HEr := hid (fun wz => errorX (onE E.W (x : Int)) wz)
    have ke : (bsA (erL (onE E.W (x : Int)))).size ≤ 32 := erL_len _
    have HRR : Hid (bsA (placeL x) ++ ({ data := #[58, 32] } : ByteArray) ++ bsA (erL (onE E.W (x : Int))) = bsA R) := hid (by rw [← hR, ← bsA_app, ← bsA_app]; rfl)
    generalize bsA (placeL x) = sp at *
    generalize bsA (erL (onE E.W (x : Int))) = se at *
    generalize onE E.W (x : Int) = cd at *
    have dc : (cd != 0) = true := by simpa using hc
    have dc' : (cd == 0) = false := by simpa using hc
    obtain ⟨t1, ht1⟩ : ∃ t, sp ++ ({ data := #[58, 32] } : ByteArray) = t := ⟨_, rfl⟩
    have z1 : t1.size ≤ 72 := by rw [← ht1, ByteArray.size_append]; show _ + 2 ≤ _; omega
    have zc : (({ data := #[58, 32] } : ByteArray)).size = 2 := rfl
    clear hR hc h
    go_enter Tryz.func205, Tryz.ntmps205
    (go_wp2_with fail; refine (HOp.out _ HM.out).mono ?_; rintro e_ w_ ⟨he_, hw_⟩; subst he_; have hs_ := hw_.symm; clear hw_; subst hs_)
    (go_wp2_with fail; refine (HPl.out _).mono ?_; rintro e_ w_ ⟨he_, hw_⟩; subst he_; have hs_ := hw_.symm; clear hw_; subst hs_)
    (go_wp2_with fail; refine (HEr.out _).mono ?_; rintro e_ w_ ⟨he_, hw_⟩; subst he_; have hs_ := hw_.symm; clear hw_; subst hs_)
    go_wp2
    go_ret
    exact ⟨by rw [← HRR.out, ht1]; rfl, rfl⟩
  as_aux_lemma =>
  rw [if_pos hc] at hR
  unfold owR at HOp
  rw [if_pos hc] at HOp
  obtain ⟨_, ho, hg⟩ := onE_op hc
  obtain ⟨o1, o2, o3, o4, o5, o6⟩ := opW_ok ho hg
  have kA : (bsA (dsA E x)).size ≤ 200 := dsA_len hx hg ho (h.cl _)
  have HA : Hid (bsA (placeL x) ++ ({ data := #[32, 115, 105, 122, 101, 61] } : ByteArray) ++ bsA (dgL (szN E.W (gIx (x : Int)))) ++ ({ data := #[32, 114, 101, 102, 115, 61] } : ByteArray) ++ bsA (dgL (rfN E.W (gIx (x : Int)))) ++ (({ data := #[32, 99, 111, 117, 110, 116, 61] } : ByteArray) ++ bsA (dgL (E.C (gIx (x : Int))))) = bsA (dsA E x)) := hid (by
    unfold dsA
    simp only [← bsA_app]
    rfl)
  have HB : Hid (bsA (dsB E x) = bsA (dsA E x) ++ bsA (if E.K (gIx (x : Int)) = true then [32, 109, 97, 114, 107, 61, 49] else [32, 109, 97, 114, 107, 61, 48])) := hid (by unfold dsB; rw [← bsA_app])
  have HC : Hid (bsA (dsC E x) = bsA (dsB E x) ++ ({ data := #[32, 108, 111, 103, 61] } : ByteArray) ++ bsA (if rfN E.W (gIx (x : Int)) = 0 then [45] else [])) := hid (by unfold dsC; rw [← bsA_app, ← bsA_app]; rfl)
  have HD0 : Hid (bsA (dsC E x) = bsA (dsD E x 0)) := hid (by unfold dsD; rw [show bmF (lgB E (2 * gIx (x : Int) + 1)) 0 = [] from rfl, List.append_nil])
  have HDs : Hid (∀ q, bsA (dsD E x (q + 1)) = bsA (dsD E x q) ++ bsA [lgB E (2 * gIx (x : Int) + 1) q]) := hid (fun q => by
    unfold dsD
    rw [show bmF (lgB E (2 * gIx (x : Int) + 1)) (q + 1) = bmF (lgB E (2 * gIx (x : Int) + 1)) q ++ [lgB E (2 * gIx (x : Int) + 1) q] from rfl, ← List.append_assoc, ← bsA_app])
  have HRR : Hid (bsA (dsD E x (min (rfN E.W (gIx (x : Int))) 32)) ++ bsA (if 32 < rfN E.W (gIx (x : Int)) then [43] else []) = bsA R) := hid (by rw [← hR, bsA_app])
  rw [o1, o2] at HOp
  have HDz := hid (fun wz => decimalM (szN E.W (gIx (x : Int))) (by omega) wz)
  have HDr := hid (fun wz => decimalM (rfN E.W (gIx (x : Int))) (by omega) wz)
  have z1 := dgL_20 (n := szN E.W (gIx (x : Int))) (by omega)
  have z2 := dgL_20 (n := rfN E.W (gIx (x : Int))) (by omega)
  have z3 := dgL_20 (n := E.C (gIx (x : Int))) (by have := h.cl (gIx (x : Int)); omega)
  have HDc := hid (fun wz => decimalM (E.C (gIx (x : Int))) (by have := h.cl (gIx (x : Int)); omega) wz)
  have c1 := h.cells.2.1
  have cc := h.count hg
  have c2 := h.cells.2.2.1
  have cm := h.mark hg
  have c3 := h.cells.2.2.2.1
  have HG := hid (fun (i : Nat) (hi : i < 32768) => h.log hi)
  have hcb := h.cl (gIx (x : Int))
  clear hR hc ho o1 o2 h
  generalize bsA (dgL (szN E.W (gIx (x : Int)))) = sz' at *
  generalize bsA (dgL (rfN E.W (gIx (x : Int)))) = sr' at *
  generalize bsA (dgL (E.C (gIx (x : Int)))) = sc' at *
  generalize bsA (placeL x) = sp at *
  generalize szN E.W (gIx (x : Int)) = sz at *
  generalize hrf : rfN E.W (gIx (x : Int)) = rf at *
  generalize E.C (gIx (x : Int)) = cv at *
  generalize hkm : E.K (gIx (x : Int)) = km at *
  clear hrf hkm
  obtain ⟨g, hgg⟩ : ∃ g, gIx (x : Int) = g := ⟨_, rfl⟩
  rw [hgg] at hg o6 HOp cc cm HDs
  obtain ⟨k, hk⟩ : ∃ k, 2 * g = k := ⟨_, rfl⟩
  rw [hk] at o6 HOp HDs
  have ek : (k : Int).tdiv 2 = (g : Int) := by rw [Int.tdiv_eq_ediv_of_nonneg (by omega)]; omega
  have ek' : (k : Int) / 2 = (g : Int) := by omega
  clear hgg hk
  obtain ⟨t29, h29⟩ : ∃ t, sp ++ ({ data := #[32, 115, 105, 122, 101, 61] } : ByteArray) = t := ⟨_, rfl⟩
  obtain ⟨t33, h33⟩ : ∃ t, t29 ++ sz' = t := ⟨_, rfl⟩
  obtain ⟨t34, h34⟩ : ∃ t, t33 ++ ({ data := #[32, 114, 101, 102, 115, 61] } : ByteArray) = t := ⟨_, rfl⟩
  obtain ⟨t38, h38⟩ : ∃ t, t34 ++ sr' = t := ⟨_, rfl⟩
  obtain ⟨t49, h49⟩ : ∃ t, ({ data := #[32, 99, 111, 117, 110, 116, 61] } : ByteArray) ++ sc' = t := ⟨_, rfl⟩
  have l29 : t29.size ≤ 76 := by rw [← h29, ByteArray.size_append]; show _ + 6 ≤ _; omega
  have l33 : t33.size ≤ 96 := by rw [← h33, ByteArray.size_append]; omega
  have l34 : t34.size ≤ 102 := by rw [← h34, ByteArray.size_append]; show _ + 6 ≤ _; omega
  have l38 : t38.size ≤ 122 := by rw [← h38, ByteArray.size_append]; omega
  have l49 : t49.size ≤ 27 := by rw [← h49, ByteArray.size_append]; show 7 + _ ≤ _; omega
  obtain ⟨tA, hA⟩ : ∃ t, bsA (dsA E x) = t := ⟨_, rfl⟩
  have eA : t38 ++ t49 = tA := by rw [← hA, ← HA.out, h29, h33, h34, h38, h49]
  rw [hA] at HB kA
  have q1 : (({ data := #[32, 115, 105, 122, 101, 61] } : ByteArray)).size = 6 := rfl
  have q2 : (({ data := #[32, 114, 101, 102, 115, 61] } : ByteArray)).size = 6 := rfl
  have q3 : (({ data := #[32, 99, 111, 117, 110, 116, 61] } : ByteArray)).size = 7 := rfl
  clear hA HA
  go_enter Tryz.func205, Tryz.ntmps205
  (go_wp2_with fail; refine (HOp.out _ HM.out).mono ?_; rintro e_ w_ ⟨he_, hw_⟩; subst he_; have hs_ := hw_.symm; clear hw_; subst hs_)
  (go_wp2_with fail; refine (HPl.out _).mono ?_; rintro e_ w_ ⟨he_, hw_⟩; subst he_; have hs_ := hw_.symm; clear hw_; subst hs_)
  (go_wp2_with fail; refine (HDz.out _).mono ?_; rintro e_ w_ ⟨he_, hw_⟩; subst he_; have hs_ := hw_.symm; clear hw_; subst hs_)
  (go_wp2_with fail; refine (HDr.out _).mono ?_; rintro e_ w_ ⟨he_, hw_⟩; subst he_; have hs_ := hw_.symm; clear hw_; subst hs_)
  (go_wp2_with fail; refine (HDc.out _).mono ?_; rintro e_ w_ ⟨he_, hw_⟩; subst he_; have hs_ := hw_.symm; clear hw_; subst hs_)
  clear HOp HPl HDz HDr HDc
  go_upto_if 58 with fail
  clear h29 h33 h34 h38 h49 eA l29 l33 l34 l38 l49 q1 q2 q3 z1 z2 z3 kp c1 cc
  go_cut [9] from 59 to 62 (fun v wc => ∃ s : ByteArray, v = .string s ∧ s.size ≤ 207 ∧ Hid (s = bsA (dsB E x)) ∧ wc = w)
  case first =>
    cases km with
    | true =>
      have z : (({ data := #[32, 109, 97, 114, 107, 61, 49] } : ByteArray)).size = 7 := rfl
      have hs : (tA ++ ({ data := #[32, 109, 97, 114, 107, 61, 49] } : ByteArray)).size ≤ 207 := by rw [ByteArray.size_append]; omega
      go_wp2
      go_meet
      case rel => exact ⟨_, rfl, hs, hid (by rw [HB.out]; rfl), rfl⟩
    | false =>
      have z : (({ data := #[32, 109, 97, 114, 107, 61, 48] } : ByteArray)).size = 7 := rfl
      have hs : (tA ++ ({ data := #[32, 109, 97, 114, 107, 61, 48] } : ByteArray)).size ≤ 207 := by rw [ByteArray.size_append]; omega
      go_wp2
      go_meet
      case rel => exact ⟨_, rfl, hs, hid (by rw [HB.out]; rfl), rfl⟩
  case rest =>
  obtain ⟨sB, rfl, hsB, HsB, hwc⟩ := hcut
  have hwc' := hwc.symm
  clear hwc
  subst hwc'
  rw [← HsB.out] at HC
  clear HB HsB cm c2 kA
  have z5 : (({ data := #[32, 108, 111, 103, 61] } : ByteArray)).size = 5 := rfl
  obtain ⟨tl, htl⟩ : ∃ t, sB ++ ({ data := #[32, 108, 111, 103, 61] } : ByteArray) = t := ⟨_, rfl⟩
  have ltl : tl.size ≤ 212 := by rw [← htl, ByteArray.size_append]; omega
  rw [htl] at HC
  obtain ⟨b0, hb0⟩ : ∃ b0 : Bool, ((rf : Int) == 0) = b0 := ⟨_, rfl⟩
  go_upto_if 66 with fail
  clear htl z5
  go_cut [9] from 67 to 68 (fun v wc => ∃ s : ByteArray, v = .string s ∧ s.size ≤ 213 ∧ Hid (s = bsA (dsD E x 0)) ∧ wc = w)
  case first =>
    cases b0 with
    | true =>
      have z : (({ data := #[45] } : ByteArray)).size = 1 := rfl
      have hs : (tl ++ ({ data := #[45] } : ByteArray)).size ≤ 213 := by rw [ByteArray.size_append]; omega
      have hr0 : rf = 0 := by simp at hb0; omega
      have HF : Hid (tl ++ ({ data := #[45] } : ByteArray) = bsA (dsD E x 0)) := hid (by rw [← HD0.out, HC.out, if_pos hr0]; rfl)
      clear hr0 hb0
      go_wp2
      go_meet
      case rel => exact ⟨_, rfl, hs, HF, rfl⟩
    | false =>
      have hr0 : ¬ rf = 0 := by simp at hb0; omega
      have HF : Hid (tl = bsA (dsD E x 0)) := hid (by rw [← HD0.out, HC.out, if_neg hr0]; apply ByteArray.ext; simp [bsA, ByteArray.data_append])
      clear hr0 hb0
      go_wp2
      go_meet
      case rel => exact ⟨tl, rfl, by omega, HF, rfl⟩
  case rest =>
  obtain ⟨s0, rfl, hs0, Hs0, hwc⟩ := hcut
  have hwc' := hwc.symm
  clear hwc
  subst hwc'
  clear HC HD0 hb0
  go_upto_region 13 with fail
  go_loopw [9, 10] (fun t v wr => wr = w ∧ ∃ (q q1 : Nat) (s : ByteArray), v = .int .i64 (q1 : Int) ∧ t = .string s ∧ (q1 ≤ q + 1 ∧ q + 1 ≤ q1) ∧ q ≤ min rf 32 ∧ s.size ≤ 213 + q ∧ Hid (s = bsA (dsD E x q))) (fun _ v _ => 40 - (intOf v).toNat)
  case atStart => exact ⟨rfl, 0, 1, s0, rfl, rfl, by omega, by omega, by omega, Hs0⟩
  case round =>
  clear Hs0
  obtain ⟨hwr, q, q1, s, rfl, rfl, hq1, hq, hsz, HS⟩ := hrel
  have hwr' := hwr.symm
  clear hwr
  subst hwr'
  by_cases hqn : q < min rf 32
  · have dq : decide ((q1 : Int) ≤ (rf : Int)) = true := decide_eq_true (by omega)
    have dqn : decide (q1 ≤ rf) = true := decide_eq_true (by omega)
    have d2 : decide ((q1 : Int) ≤ 32) = true := decide_eq_true (by omega)
    have d2n : decide (q1 ≤ 32) = true := decide_eq_true (by omega)
    obtain ⟨y, hy⟩ : ∃ y, k + q1 = y := ⟨_, rfl⟩
    have ey : (k : Int) + (q1 : Int) = (y : Int) := by omega
    have hyb : y < 32768 := by omega
    have cg := HG.out y hyb
    have Hst := hid (HDs.out q)
    unfold lgB at Hst
    rw [show k + 1 + q = y by omega] at Hst
    obtain ⟨gb, hgb⟩ : ∃ gb, E.G y = gb := ⟨_, rfl⟩
    rw [hgb] at cg Hst
    clear hgb hy
    rw [← HS.out] at Hst
    cases gb with
    | true =>
      as_aux_lemma =>
      have z : (({ data := #[49] } : ByteArray)).size = 1 := rfl
      have hs : (s ++ ({ data := #[49] } : ByteArray)).size ≤ 213 + (q + 1) := by rw [ByteArray.size_append]; omega
      go_wp2
      exact ⟨⟨by trivial, q + 1, q1 + 1, s ++ ({ data := #[49] } : ByteArray), by go_num, rfl, by omega, by omega, hs, hid (by rw [Hst.out]; rfl)⟩, by simp [intOf]; omega⟩
    | false =>
      as_aux_lemma =>
      have z : (({ data := #[48] } : ByteArray)).size = 1 := rfl
      have hs : (s ++ ({ data := #[48] } : ByteArray)).size ≤ 213 + (q + 1) := by rw [ByteArray.size_append]; omega
      go_wp2
      exact ⟨⟨by trivial, q + 1, q1 + 1, s ++ ({ data := #[48] } : ByteArray), by go_num, rfl, by omega, by omega, hs, hid (by rw [Hst.out]; rfl)⟩, by simp [intOf]; omega⟩
  have HSe : Hid (s = bsA (dsD E x (min rf 32))) := hid (by rw [HS.out, show q = min rf 32 by omega])
  rw [← HSe.out] at HRR
  clear HSe HS HDs
  by_cases hrb : 32 < rf
  · as_aux_lemma =>
    rw [if_pos hrb] at HRR
    have dq : decide ((q1 : Int) ≤ (rf : Int)) = true := decide_eq_true (by omega)
    have dqn : decide (q1 ≤ rf) = true := decide_eq_true (by omega)
    have d2 : decide ((q1 : Int) ≤ 32) = false := decide_eq_false (by omega)
    have d2n : decide (q1 ≤ 32) = false := decide_eq_false (by omega)
    have d3 : decide ((rf : Int) > 32) = true := decide_eq_true (by omega)
    have d3' : decide (32 < (rf : Int)) = true := decide_eq_true (by omega)
    have d3n : decide (32 < rf) = true := decide_eq_true hrb
    have z : (({ data := #[43] } : ByteArray)).size = 1 := rfl
    go_wp2
    go_ret
    exact ⟨by rw [← HRR.out]; rfl, rfl⟩
  · as_aux_lemma =>
    rw [if_neg hrb] at HRR
    have dq : decide ((q1 : Int) ≤ (rf : Int)) = false := decide_eq_false (by omega)
    have dqn : decide (q1 ≤ rf) = false := decide_eq_false (by omega)
    have d3 : decide ((rf : Int) > 32) = false := decide_eq_false (by omega)
    have d3' : decide (32 < (rf : Int)) = false := decide_eq_false (by omega)
    have d3n : decide (32 < rf) = false := decide_eq_false hrb
    have HR2 : Hid (bsA R = s) := hid (by rw [← HRR.out]; apply ByteArray.ext; simp [bsA, ByteArray.data_append])
    go_wp2
    go_ret
    exact ⟨by rw [HR2.out]; rfl, rfl⟩
end
end Go.Proofs.Qxb6500887aGreat
