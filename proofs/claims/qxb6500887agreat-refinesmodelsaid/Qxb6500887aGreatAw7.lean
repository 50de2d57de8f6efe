/- The model's texts: decimal, place. -/
import Derived.Test.Qxb6500887aGreatAw6
import Derived.Deep.DeepCutAuto
namespace Go.Proofs.Qxb6500887aGreat
open Go.RowKit
set_option linter.unusedSimpArgs false
set_option linter.unusedVariables false
/-- A string by its bytes. -/
def bsA (l : List UInt8) : ByteArray := ⟨l.toArray⟩
theorem bsA_app (a b : List UInt8) : bsA a ++ bsA b = bsA (a ++ b) := by
  unfold bsA
  apply ByteArray.ext
  simp [ByteArray.data_append]
/-- The digits of a number. -/
def dgL (n : Nat) : List UInt8 := if h : n < 10 then [(48 + n).toUInt8] else dgL (n / 10) ++ [(48 + n % 10).toUInt8]
termination_by n
decreasing_by omega
theorem dgL_small {n : Nat} (h : n < 10) : dgL n = [(48 + n).toUInt8] := by rw [dgL, dif_pos h]
theorem dgL_big {n : Nat} (h : ¬ n < 10) : dgL n = dgL (n / 10) ++ dgL (n % 10) := by rw [dgL, dif_neg h, dgL_small (show n % 10 < 10 by omega)]
theorem dgL_len : ∀ (k n : Nat), n < 10 ^ (k + 1) → (dgL n).length ≤ k + 1
  | 0, n, h => by rw [dgL_small (by simpa using h)]; exact Nat.le_refl _
  | k + 1, n, h => by
    by_cases hb : n < 10
    · rw [dgL_small hb]; simp
    · rw [dgL_big hb, dgL_small (show n % 10 < 10 by omega), List.length_append]
      have := dgL_len k (n / 10) (by rw [Nat.pow_succ] at h; omega)
      simp only [List.length_singleton]
      omega
theorem dgL_20 {n : Nat} (h : n < 18446744073709551616) : (bsA (dgL n)).size ≤ 20 := dgL_len 19 n (Nat.lt_of_lt_of_le h (by decide))
theorem bsA_size (l : List UInt8) : (bsA l).size = l.length := rfl
set_option maxRecDepth 100000 in
theorem decimalM (n : Nat) (hn : n < 18446744073709551616) (w : World) : Calls Tryz.prog 250 #[.int .u64 (n : Int)] w fun e w' => e = .returned (.string (bsA (dgL n))) ∧ w' = w := by
  induction n using Nat.strongRecOn generalizing w with
  | _ n ih =>
    by_cases hb : n < 10
    · rw [dgL_small hb]
      have d1 : decide ((n : Int) ≥ 10) = false := decide_eq_false (by omega)
      have d1' : decide (10 ≤ (n : Int)) = false := decide_eq_false (by omega)
      have d1n : decide (10 ≤ n) = false := decide_eq_false (by omega)
      clear ih
      rcases (by omega : n = 0 ∨ n = 1 ∨ n = 2 ∨ n = 3 ∨ n = 4 ∨ n = 5 ∨ n = 6 ∨ n = 7 ∨ n = 8 ∨ n = 9) with rfl | rfl | rfl | rfl | rfl | rfl | rfl | rfl | rfl | rfl
      all_goals
        go_enter Tryz.func250, Tryz.ntmps250
        go_wp2
        go_ret
        exact ⟨rfl, rfl⟩
    · rw [dgL_big hb, ← bsA_app]
      have d1 : decide ((n : Int) ≥ 10) = true := decide_eq_true (by omega)
      have d1' : decide (10 ≤ (n : Int)) = true := decide_eq_true (by omega)
      have d1n : decide (10 ≤ n) = true := decide_eq_true (by omega)
      obtain ⟨a, ha⟩ : ∃ a, n / 10 = a := ⟨_, rfl⟩
      obtain ⟨b, hb2⟩ : ∃ b, n % 10 = b := ⟨_, rfl⟩
      have ea : (n : Int) / 10 = (a : Int) := by omega
      have eb : (n : Int) % 10 = (b : Int) := by omega
      have H1 := hid (ih a (by omega) (by omega) w)
      have H2 := hid (ih b (by omega) (by omega) w)
      have z1 := dgL_20 (n := a) (by omega)
      have z2 := dgL_20 (n := b) (by omega)
      rw [ha, hb2]
      generalize bsA (dgL a) = s1 at *
      generalize bsA (dgL b) = s2 at *
      clear ih ha hb2
      go_enter Tryz.func250, Tryz.ntmps250
      (go_wp2_with fail; refine (H1.out).mono ?_; rintro e_ w_ ⟨he_, hw_⟩; subst he_; have hs_ := hw_.symm; clear hw_; subst hs_)
      (go_wp2_with fail; refine (H2.out).mono ?_; rintro e_ w_ ⟨he_, hw_⟩; subst he_; have hs_ := hw_.symm; clear hw_; subst hs_)
      go_wp2
      go_ret
      exact ⟨rfl, rfl⟩
/-- An address for the eye. -/
def placeL (x : Nat) : List UInt8 := if x = 0 then [110, 105, 108] else if InH (x : Int) then [98] ++ dgL ((x - 65536) / 512) ++ [46, 108] ++ dgL ((x - 65536) % 512 / 16) ++ [46, 119] ++ dgL ((x - 65536) % 16) else [119, 105, 108, 100, 58] ++ dgL x
theorem placeL_len {x : Nat} (h : x < 18446744073709551616) : (placeL x).length ≤ 70 := by
  have k1 : (dgL ((x - 65536) / 512)).length ≤ 20 := dgL_20 (by omega)
  have k2 : (dgL ((x - 65536) % 512 / 16)).length ≤ 20 := dgL_20 (by omega)
  have k3 : (dgL ((x - 65536) % 16)).length ≤ 20 := dgL_20 (by omega)
  have k4 : (dgL x).length ≤ 20 := dgL_20 h
  unfold placeL
  split
  · show 3 ≤ 70; omega
  · split
    · simp only [List.length_append, List.length_cons, List.length_nil]; omega
    · simp only [List.length_append, List.length_cons, List.length_nil]; omega
theorem cA (l : List UInt8) : ({ data := l.toArray } : ByteArray) = bsA l := rfl
set_option maxRecDepth 100000 in
theorem placeM (x : Nat) (hx : x < 18446744073709551616) (w : World) : Calls Tryz.prog 204 #[.int .u64 (x : Int)] w fun e w' => e = .returned (.string (bsA (placeL x))) ∧ w' = w := by
  obtain ⟨R, hR⟩ : ∃ R, bsA (placeL x) = R := ⟨_, rfl⟩
  rw [hR]
  unfold placeL at hR
  by_cases h0 : x = 0
  · subst h0
    rw [if_pos rfl] at hR
    have HRR := hid hR
    clear hR
    go_enter Tryz.func204, Tryz.ntmps204
    go_wp2
    go_ret
    exact ⟨by rw [← HRR.out]; rfl, rfl⟩
  · rw [if_neg h0] at hR
    have d0 : ((x : Int) == 0) = false := by simp; omega
    have HW := hid (fun wz => ckwM (x : Int) wz)
    unfold wantW at HW
    by_cases hi : InH (x : Int)
    · rw [if_pos hi] at hR HW
      have HO := hid (fun wz => wofM' (x : Int) hi.1 (by have := hi.2; omega) wz)
      obtain ⟨k, hk⟩ : ∃ k, x - 65536 = k := ⟨_, rfl⟩
      have hkb : k < 32768 := by have := hi.1; have := hi.2; omega
      rw [show (x : Int) - 65536 = (k : Int) by have := hi.1; omega] at HO
      rw [hk] at hR
      clear hk hi
      obtain ⟨a, ha⟩ : ∃ a, k / 512 = a := ⟨_, rfl⟩
      obtain ⟨b, hb⟩ : ∃ b, k % 512 = b := ⟨_, rfl⟩
      obtain ⟨c, hc⟩ : ∃ c, b / 16 = c := ⟨_, rfl⟩
      obtain ⟨d, hd⟩ : ∃ d, k % 16 = d := ⟨_, rfl⟩
      have ea : (k : Int) / 512 = (a : Int) := by omega
      have eb : (k : Int) % 512 = (b : Int) := by omega
      have ec : (b : Int) / 16 = (c : Int) := by omega
      have ed : (k : Int) % 16 = (d : Int) := by omega
      have HDa := hid (fun wz => decimalM a (by omega) wz)
      have HDc := hid (fun wz => decimalM c (by omega) wz)
      have HDd := hid (fun wz => decimalM d (by omega) wz)
      have za := dgL_20 (n := a) (by omega)
      have zc := dgL_20 (n := c) (by omega)
      have zd := dgL_20 (n := d) (by omega)
      have hbb : b < 512 := by omega
      rw [ha, hb, hc, hd] at hR
      clear ha hb hc hd
      simp only [← bsA_app] at hR
      generalize bsA (dgL a) = sa at *
      generalize bsA (dgL c) = sc at *
      generalize bsA (dgL d) = sd at *
      obtain ⟨t1, ht1⟩ : ∃ t, ({ data := #[98] } : ByteArray) ++ sa = t := ⟨_, rfl⟩
      obtain ⟨t2, ht2⟩ : ∃ t, t1 ++ ({ data := #[46, 108] } : ByteArray) = t := ⟨_, rfl⟩
      obtain ⟨t3, ht3⟩ : ∃ t, t2 ++ sc = t := ⟨_, rfl⟩
      obtain ⟨t4, ht4⟩ : ∃ t, t3 ++ ({ data := #[46, 119] } : ByteArray) = t := ⟨_, rfl⟩
      have l1 : t1.size ≤ 21 := by rw [← ht1, ByteArray.size_append]; show 1 + _ ≤ _; omega
      have l2 : t2.size ≤ 23 := by rw [← ht2, ByteArray.size_append]; show _ + 2 ≤ _; omega
      have l3 : t3.size ≤ 43 := by rw [← ht3, ByteArray.size_append]; omega
      have l4 : t4.size ≤ 45 := by rw [← ht4, ByteArray.size_append]; show _ + 2 ≤ _; omega
      have HRR : Hid (t4 ++ sd = R) := hid (by rw [← hR, ← ht4, ← ht3, ← ht2, ← ht1]; rfl)
      have s1 : (({ data := #[98] } : ByteArray)).size = 1 := rfl
      have s2 : (({ data := #[46, 108] } : ByteArray)).size = 2 := rfl
      have s3 : (({ data := #[46, 119] } : ByteArray)).size = 2 := rfl
      clear hR
      go_enter Tryz.func204, Tryz.ntmps204
      (go_wp2_with fail; refine (HW.out w).mono ?_; rintro e_ w_ ⟨he_, hw_⟩; subst he_; have hs_ := hw_.symm; clear hw_; subst hs_)
      (go_wp2_with fail; refine (HO.out w).mono ?_; rintro e_ w_ ⟨he_, hw_⟩; subst he_; have hs_ := hw_.symm; clear hw_; subst hs_)
      (go_wp2_with fail; refine (HDa.out w).mono ?_; rintro e_ w_ ⟨he_, hw_⟩; subst he_; have hs_ := hw_.symm; clear hw_; subst hs_)
      (go_wp2_with fail; refine (HDc.out w).mono ?_; rintro e_ w_ ⟨he_, hw_⟩; subst he_; have hs_ := hw_.symm; clear hw_; subst hs_)
      (go_wp2_with fail; refine (HDd.out w).mono ?_; rintro e_ w_ ⟨he_, hw_⟩; subst he_; have hs_ := hw_.symm; clear hw_; subst hs_)
      go_wp2
      go_ret
      exact ⟨by rw [← HRR.out]; rfl, rfl⟩
    · rw [if_neg hi] at hR HW
      have HD := hid (fun wz => decimalM x hx wz)
      have zx := dgL_20 hx
      simp only [← bsA_app] at hR
      generalize bsA (dgL x) = sx at *
      have HRR := hid hR
      have s1 : (({ data := #[119, 105, 108, 100, 58] } : ByteArray)).size = 5 := rfl
      clear hR hi
      go_enter Tryz.func204, Tryz.ntmps204
      (go_wp2_with fail; refine (HW.out w).mono ?_; rintro e_ w_ ⟨he_, hw_⟩; subst he_; have hs_ := hw_.symm; clear hw_; subst hs_)
      (go_wp2_with fail; refine (HD.out w).mono ?_; rintro e_ w_ ⟨he_, hw_⟩; subst he_; have hs_ := hw_.symm; clear hw_; subst hs_)
      go_wp2
      go_ret
      exact ⟨by rw [← HRR.out]; rfl, rfl⟩
end Go.Proofs.Qxb6500887aGreat
