/- maskAt, nonzero, trailingZeros, indexOf, window, repeat, highestBit for tables of any width. -/
import Derived.Test.Qxb6500887aGreatAz1
import Derived.Test.Qxb6500887aGreatRet
namespace Go.Proofs.Qxb6500887aGreat
open Go.RowKit
set_option linter.unusedSimpArgs false
set_option linter.unusedVariables false

theorem F64_and {x : Nat} (h : x < 18446744073709551616) : F64 &&& x = x := by
  rw [Nat.and_comm]
  have : F64 = 2 ^ 64 - 1 := rfl
  rw [this, Nat.and_two_pow_sub_one_eq_mod]
  exact Nat.mod_eq_of_lt h
theorem u64_and_nat {a b : Nat} (ha : a < 18446744073709551616) (hb : b < 18446744073709551616) : bits .and .u64 (a : Int) (b : Int) = ((a &&& b : Nat) : Int) := by
  rw [u64_and _ _ (Int.natCast_nonneg _) (by omega) (Int.natCast_nonneg _) (by omega)]
  simp
set_option maxRecDepth 100000 in
set_option maxHeartbeats 1000000 in
theorem maskAtG (fw lw fm lm q : Nat) (hf : fm < 18446744073709551616) (hl : lm < 18446744073709551616) (w : World) : Calls Tryz.prog 222 #[.agg #[.int .i64 (fw : Int), .int .i64 (lw : Int), .int .u64 (fm : Int), .int .u64 (lm : Int)], .int .i64 (q : Int)] w fun e w' => e = .returned (.int .u64 ((mAt fw lw fm lm q : Nat) : Int)) ∧ Below w.heap.size w w' := by
  obtain ⟨p, hp⟩ : ∃ p, w.heap.size = p := ⟨_, rfl⟩
  have bA : bits .and .u64 18446744073709551615 (fm : Int) = (fm : Int) := by
    have := u64_and_nat (a := F64) (b := fm) (by decide) hf
    rw [F64_and hf] at this
    exact this
  have bC : bits .and .u64 18446744073709551615 (lm : Int) = (lm : Int) := by
    have := u64_and_nat (a := F64) (b := lm) (by decide) hl
    rw [F64_and hl] at this
    exact this
  have bAC : bits .and .u64 (fm : Int) (lm : Int) = ((fm &&& lm : Nat) : Int) := u64_and_nat hf hl
  go_enter Tryz.func222, Tryz.ntmps222
  go_upto_region 2 with fail
  obtain ⟨w2, hw2⟩ : ∃ w2, w.alloc (.cells #[.int .i64 (fw : Int), .int .i64 (lw : Int), .int .u64 (fm : Int), .int .u64 (lm : Int)] 222) = w2 := ⟨_, rfl⟩
  have HB2 : Hid (Below w.heap.size w w2 ∧ Blk w2 p 222 [.int .i64 (fw : Int), .int .i64 (lw : Int), .int .u64 (fm : Int), .int .u64 (lm : Int)]) := hid (by
    have k1 := Blk.new w [.int .i64 (fw : Int), .int .i64 (lw : Int), .int .u64 (fm : Int), .int .u64 (lm : Int)] 222
    rw [hp] at k1
    rw [← hw2]
    exact ⟨(Below.refl _ w).alloc (Nat.le_refl _) _, k1⟩)
  (try simp only [hw2])
  clear hw2
  have c0 : w2.cell? ⟨p, 0, none⟩ = some (.int .i64 (fw : Int)) := HB2.out.2.cell 0
  have c1 : w2.cell? ⟨p, 1, none⟩ = some (.int .i64 (lw : Int)) := HB2.out.2.cell 1
  have c2 : w2.cell? ⟨p, 2, none⟩ = some (.int .u64 (fm : Int)) := HB2.out.2.cell 2
  have c3 : w2.cell? ⟨p, 3, none⟩ = some (.int .u64 (lm : Int)) := HB2.out.2.cell 3
  have HM : Hid (mAt fw lw fm lm q = (if q = fw then fm else F64) &&& (if q = lw then lm else F64)) := hid rfl
  by_cases e1 : q = fw
  · have d1 : ((q : Int) == (fw : Int)) = true := by simp [e1]
    by_cases e2 : q = lw
    · as_aux_lemma =>
      have d2 : ((q : Int) == (lw : Int)) = true := by simp [e2]
      have HF : Hid (mAt fw lw fm lm q = fm &&& lm) := hid (by rw [HM.out, if_pos e1, if_pos e2])
      clear e1 e2 HM
      go_wp2
      go_ret
      exact ⟨by rw [HF.out]; rfl, HB2.out.1⟩
    · as_aux_lemma =>
      have d2 : ((q : Int) == (lw : Int)) = false := by simp; omega
      have HF : Hid (mAt fw lw fm lm q = fm) := hid (by rw [HM.out, if_pos e1, if_neg e2, Nat.and_comm, F64_and hf])
      clear e1 e2 HM
      go_wp2
      go_ret
      exact ⟨by rw [HF.out]; rfl, HB2.out.1⟩
  · have d1 : ((q : Int) == (fw : Int)) = false := by simp; omega
    by_cases e2 : q = lw
    · as_aux_lemma =>
      have d2 : ((q : Int) == (lw : Int)) = true := by simp [e2]
      have HF : Hid (mAt fw lw fm lm q = lm) := hid (by rw [HM.out, if_neg e1, if_pos e2, F64_and hl])
      clear e1 e2 HM
      go_wp2
      go_ret
      exact ⟨by rw [HF.out]; rfl, HB2.out.1⟩
    · as_aux_lemma =>
      have d2 : ((q : Int) == (lw : Int)) = false := by simp; omega
      have HF : Hid (mAt fw lw fm lm q = F64) := hid (by rw [HM.out, if_neg e1, if_neg e2]; rfl)
      clear e1 e2 HM
      go_wp2
      go_ret
      exact ⟨by rw [HF.out]; rfl, HB2.out.1⟩
section
variable {t b n wd per len : Nat} {X : Nat → Nat} {w w' : World}
set_option maxRecDepth 100000 in
set_option maxHeartbeats 1000000 in
theorem TB.nonzero (h : TB t b n wd per len X w) (x : Nat) (hx : x < 18446744073709551616) : Calls Tryz.prog 253 #[.pointer (some ⟨t, 0, none⟩), .int .u64 (x : Int)] w fun e w' => e = .returned (.int .u64 ((nzW wd x : Nat) : Int)) ∧ w' = w := by
  have c2 := h.cells.2.2.1
  have c5 := h.cells.2.2.2.2.2
  have hon := onW_lt wd
  have HW := hid h.k.wd
  clear h
  have key : ∀ (y k : Nat), y < 18446744073709551616 → bits .or .u64 (y : Int) ((y : Int) / 2 ^ k) = ((y ||| y >>> k : Nat) : Int) := fun y k hy => by
    have e : ((y : Int) / 2 ^ k) = ((y / 2 ^ k : Nat) : Int) := by simp
    have h1 : y / 2 ^ k ≤ y := Nat.div_le_self _ _
    rw [e, Nat.shiftRight_eq_div_pow]
    generalize y / 2 ^ k = z at *
    rw [u64_or _ _ (by omega) (by omega) (by omega) (by omega)]
    simp
  have klt : ∀ y k : Nat, y < 18446744073709551616 → y ||| y >>> k < 18446744073709551616 := fun y k hy => Nat.or_lt_two_pow (n := 64) hy (Nat.lt_of_le_of_lt (Nat.shiftRight_le y k) hy)
  have HK := hid key
  have HL := hid klt
  clear key klt
  have HE : Hid (∀ y : Nat, y < 18446744073709551616 → bits .and .u64 (y : Int) ((onW wd : Nat) : Int) = ((y &&& onW wd : Nat) : Int)) := hid (fun y hy => u64_and_nat hy hon)
  go_enter Tryz.func253, Tryz.ntmps253
  go_upto_region 2 with fail
  go_loopw [1, 5] (fun v u wr => wr = w ∧ ∃ y : Nat, v = .int .u64 (y : Int) ∧ y < 18446744073709551616 ∧ ((u = .int .u64 1 ∧ Hid (y = x)) ∨ (u = .int .u64 2 ∧ 2 ≤ wd ∧ Hid (y = x ||| x >>> 1)) ∨ (u = .int .u64 4 ∧ 4 ≤ wd ∧ Hid (y = (x ||| x >>> 1) ||| ((x ||| x >>> 1) >>> 2))))) (fun _ u _ => 4 - (intOf u).toNat)
  case atStart => exact ⟨rfl, x, rfl, hx, .inl ⟨rfl, hid rfl⟩⟩
  case round =>
  obtain ⟨hwr, y, rfl, hy, HX⟩ := hrel
  have hwr' := hwr.symm
  clear hwr
  subst hwr'
  have HEy := hid (HE.out y hy)
  have done : ∀ z, y = z → nzW wd x = z &&& onW wd → nzW wd x = y &&& onW wd := fun z h1 h2 => by rw [h1]; exact h2
  rcases HX with ⟨rfl, HY⟩ | ⟨rfl, h2, HY⟩ | ⟨rfl, h4, HY⟩
  · by_cases h1 : wd = 1
    · as_aux_lemma =>
      have d1 : decide ((1 : Int) < (wd : Int)) = false := decide_eq_false (by omega)
      have HF : Hid (nzW wd x = y &&& onW wd) := hid (done _ HY.out (by unfold nzW; rw [if_pos h1]))
      clear done HW h1
      have e9 := HEy.out
      go_wp2
      go_ret
      exact ⟨by rw [HF.out]; rfl, rfl⟩
    · as_aux_lemma =>
      have d1 : decide ((1 : Int) < (wd : Int)) = true := decide_eq_true (by rcases HW.out.three with h | h | h <;> omega)
      have hw2 : 2 ≤ wd := by rcases HW.out.three with h | h | h <;> omega
      have kk : bits .or .u64 (y : Int) ((y : Int) / 2) = ((y ||| y >>> 1 : Nat) : Int) := HK.out y 1 hy
      have HK1 := hid (HL.out y 1 hy)
      clear done HW
      go_wp2
      exact ⟨⟨by trivial, y ||| y >>> 1, rfl, HK1.out, .inr (.inl ⟨rfl, hw2, hid (by rw [HY.out])⟩)⟩, by simp [intOf]⟩
  · by_cases h1 : wd = 2
    · as_aux_lemma =>
      have d1 : decide ((2 : Int) < (wd : Int)) = false := decide_eq_false (by omega)
      have HF : Hid (nzW wd x = y &&& onW wd) := hid (done _ HY.out (by unfold nzW; rw [if_neg (by omega), if_pos h1]))
      clear done HW h1
      have e9 := HEy.out
      go_wp2
      go_ret
      exact ⟨by rw [HF.out]; rfl, rfl⟩
    · as_aux_lemma =>
      have d1 : decide ((2 : Int) < (wd : Int)) = true := decide_eq_true (by rcases HW.out.three with h | h | h <;> omega)
      have hw2 : 4 ≤ wd := by rcases HW.out.three with h | h | h <;> omega
      have kk : bits .or .u64 (y : Int) ((y : Int) / 4) = ((y ||| y >>> 2 : Nat) : Int) := HK.out y 2 hy
      have HK1 := hid (HL.out y 2 hy)
      clear done HW
      go_wp2
      exact ⟨⟨by trivial, y ||| y >>> 2, rfl, HK1.out, .inr (.inr ⟨rfl, hw2, hid (by rw [HY.out])⟩)⟩, by simp [intOf]⟩
  · as_aux_lemma =>
    have d1 : decide ((4 : Int) < (wd : Int)) = false := decide_eq_false (by rcases HW.out.three with h | h | h <;> omega)
    have HF : Hid (nzW wd x = y &&& onW wd) := hid (done _ HY.out (by unfold nzW; rw [if_neg (by omega), if_neg (by omega)]))
    clear done HW
    have e9 := HEy.out
    go_wp2
    go_ret
    exact ⟨by rw [HF.out]; rfl, rfl⟩
end
set_option maxRecDepth 100000 in
theorem trailingG (y k : Nat) (hy : y < 18446744073709551616) (hk : k < 64) (h : Low y k) (w : World) : Calls Tryz.prog 274 #[.int .u64 (y : Int)] w fun e w' => e = .returned (.int .i64 (k : Int)) ∧ w' = w := by
  have hy0 : y ≠ 0 := fun e => by rw [e] at h; have := h.1; simp at this
  have hp := u64_pow k hk
  have HO := hid (fun wz => onesCountG (2 ^ k - 1) (by have := hp.2; omega) wz)
  rw [oc_low hk] at HO
  have d0 : ((y : Int) == 0) = false := by simp; omega
  have e1 : IntKind.u64.wrap (-(y : Int)) = ((18446744073709551616 - y : Nat) : Int) := by rw [IntKind.wrap_u64]; omega
  have e2 : bits .and .u64 (y : Int) ((18446744073709551616 - y : Nat) : Int) = ((2 ^ k : Nat) : Int) := by
    rw [u64_and_nat hy (by omega), low_and hy hk h]
  have HX : Hid (bits .and .u64 (y : Int) (IntKind.u64.wrap (-(y : Int))) = ((2 ^ k : Nat) : Int)) := hid (by rw [e1, e2])
  clear e1 e2 h
  have hp2 := hp.2
  have e3 : IntKind.u64.wrap (((2 ^ k : Nat) : Int) - 1) = ((2 ^ k - 1 : Nat) : Int) := by
    generalize (2 : Nat) ^ k = z at *
    rw [show (z : Int) - 1 = ((z - 1 : Nat) : Int) by omega]
    exact u64_nat (by omega) (by omega)
  have HE3 := hid e3
  clear hp hp2 e3
  generalize (2 : Nat) ^ k = z at *
  generalize z - 1 = z1 at *
  go_enter Tryz.func274, Tryz.ntmps274
  go_upto_region 4 with fail
  rw [HX.out]
  have e3 := HE3.out
  go_wp2_with fail
  refine (HO.out w).mono ?_
  rintro e w1 ⟨rfl, rfl⟩
  go_wp2
  go_ret
  exact ⟨rfl, rfl⟩
end Go.Proofs.Qxb6500887aGreat
