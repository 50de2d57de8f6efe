/- The range operations of a table of 2048 four-bit entries: the small functions. -/
import Derived.Test.Qxb6500887aGreatArNib3
import Derived.Test.Qxb6500887aGreatHeavy
namespace Go.Proofs.Qxb6500887aGreat
open Go.RowKit
set_option linter.unusedSimpArgs false
set_option linter.unusedVariables false

/-- A table of 2048 entries of four bits that reads as f. -/
structure T4 (t b : Nat) (f : Nat → Nat) (w : World) : Prop where
  ws : ∃ l : List Nat, Tab w t b 2048 4 16 15 (ones4 : Int) l ∧ l.length = 128 ∧ ∀ q, q < 128 → ∃ x, l[q]? = some x ∧ x < 18446744073709551616 ∧ ∀ j, j < 16 → nib x j = f (16 * q + j)
  ne : t ≠ b
theorem T4.below {t b : Nat} {f : Nat → Nat} {w w' : World} (h : T4 t b f w) (hb : Below w.heap.size w w') : T4 t b f w' := by
  obtain ⟨l, h1, h2⟩ := h.ws
  exact ⟨⟨l, h1.below hb, h2⟩, h.ne⟩
theorem T4.upd {t b g : Nat} {f : Nat → Nat} {w w' : World} (h : T4 t b f w) (hu : Upd g w w') (h1 : t ≠ g) (h2 : b ≠ g) : T4 t b f w' := by
  obtain ⟨l, k1, k2⟩ := h.ws
  exact ⟨⟨l, k1.upd hu h1 h2, k2⟩, h.ne⟩
set_option maxRecDepth 100000 in
theorem hasRange_walk {w : World} {t b : Nat} {f : Nat → Nat} (h : T4 t b f w) (lo hi : Nat) (h1 : lo ≤ hi) (h2 : hi ≤ 2048) : Calls Tryz.prog 215 #[.pointer (some ⟨t, 0, none⟩), .int .i64 (lo : Int), .int .i64 (hi : Int)] w fun e w' => e = .returned (.bool true) ∧ w' = w := by
  obtain ⟨l, k1, _⟩ := h.ws
  have c1 : w.cell? ⟨t, 1, none⟩ = some (.int .i64 2048) := k1.tb.cell 1
  have d1 : decide ((lo : Int) ≥ 0) = true := decide_eq_true (by omega)
  have d2 : decide ((lo : Int) ≤ (hi : Int)) = true := decide_eq_true (by omega)
  have d3 : decide ((hi : Int) ≤ 2048) = true := decide_eq_true (by omega)
  clear k1 h
  go_enter Tryz.func215, Tryz.ntmps215
  go_wp2
  go_ret
  exact ⟨rfl, rfl⟩
theorem two_pow4 (a : Nat) : (2 : Nat) ^ (a * 4) = 16 ^ a := by rw [Nat.mul_comm, Nat.pow_mul]
set_option maxRecDepth 100000 in
theorem lowB_walk (a : Nat) (ha : a ≤ 16) (w : World) : Calls Tryz.prog 219 #[.int .u64 ((a * 4 : Nat) : Int)] w fun e w' => e = .returned (.int .u64 ((msk 0 a : Nat) : Int)) ∧ w' = w := by
  rcases (by omega : a = 0 ∨ a = 1 ∨ a = 2 ∨ a = 3 ∨ a = 4 ∨ a = 5 ∨ a = 6 ∨ a = 7 ∨ a = 8 ∨ a = 9 ∨ a = 10 ∨ a = 11 ∨ a = 12 ∨ a = 13 ∨ a = 14 ∨ a = 15 ∨ a = 16) with rfl | rfl | rfl | rfl | rfl | rfl | rfl | rfl | rfl | rfl | rfl | rfl | rfl | rfl | rfl | rfl | rfl
  all_goals
    go_enter Tryz.func219, Tryz.ntmps219
    go_wp2
    go_ret
    exact ⟨rfl, rfl⟩
theorem not_msk (a : Nat) (ha : a ≤ 16) : 18446744073709551615 - msk 0 a = msk a 16 := by
  rcases (by omega : a = 0 ∨ a = 1 ∨ a = 2 ∨ a = 3 ∨ a = 4 ∨ a = 5 ∨ a = 6 ∨ a = 7 ∨ a = 8 ∨ a = 9 ∨ a = 10 ∨ a = 11 ∨ a = 12 ∨ a = 13 ∨ a = 14 ∨ a = 15 ∨ a = 16) with rfl | rfl | rfl | rfl | rfl | rfl | rfl | rfl | rfl | rfl | rfl | rfl | rfl | rfl | rfl | rfl | rfl <;> rfl
def winV (lo hi : Nat) : Value := .agg #[.int .i64 ((lo / 16 : Nat) : Int), .int .i64 (((hi - 1) / 16 : Nat) : Int), .int .u64 ((msk (lo % 16) 16 : Nat) : Int), .int .u64 ((msk 0 ((hi - 1) % 16 + 1) : Nat) : Int)]
set_option maxRecDepth 100000 in
set_option maxHeartbeats 1000000 in
theorem maskAt_walk (lo hi q : Nat) (w : World) (hq : q < 128) (hl : lo < 2048) (hh : hi ≤ 2048) : Calls Tryz.prog 222 #[.agg #[.int .i64 ((lo / 16 : Nat) : Int), .int .i64 (((hi - 1) / 16 : Nat) : Int), .int .u64 ((msk (lo % 16) 16 : Nat) : Int), .int .u64 ((msk 0 ((hi - 1) % 16 + 1) : Nat) : Int)], .int .i64 (q : Int)] w fun e w' => e = .returned (.int .u64 ((mW lo hi q : Nat) : Int)) ∧ Below w.heap.size w w' := by
  have HM : Hid (mW lo hi q = if q = lo / 16 then (if q = (hi - 1) / 16 then msk (lo % 16) 16 &&& msk 0 ((hi - 1) % 16 + 1) else msk (lo % 16) 16) else (if q = (hi - 1) / 16 then full4 &&& msk 0 ((hi - 1) % 16 + 1) else full4)) := hid (by
    have e1 := (msk_and (a := lo % 16) (b := (hi - 1) % 16 + 1) (by omega) (by omega)).1
    have e2 := (msk_and (a := 0) (b := (hi - 1) % 16 + 1) (by omega) (by omega)).2.1
    unfold mW aW bW
    split <;> split
    · exact e1.symm
    · rfl
    · exact e2.symm
    · rfl)
  have HA : Hid (full4 &&& msk (lo % 16) 16 = msk (lo % 16) 16) := hid (msk_and (a := lo % 16) (b := 16) (by omega) (by omega)).2.1
  have hA := (msk_and (a := lo % 16) (b := 16) (by omega) (by omega)).2.2
  have hB := (msk_and (a := 0) (b := (hi - 1) % 16 + 1) (by omega) (by omega)).2.2
  generalize lo / 16 = fw at *
  generalize (hi - 1) / 16 = lw at *
  generalize msk (lo % 16) 16 = A at *
  generalize msk 0 ((hi - 1) % 16 + 1) = C at *
  obtain ⟨p, hp⟩ : ∃ p, w.heap.size = p := ⟨_, rfl⟩
  have bA : bits .and .u64 18446744073709551615 (A : Int) = (A : Int) := by
    rw [u64_and _ _ (by omega) (by omega) (by omega) (by omega)]
    show ((full4 &&& A : Nat) : Int) = _
    rw [HA.out]
  have bC : bits .and .u64 18446744073709551615 (C : Int) = ((full4 &&& C : Nat) : Int) := by
    rw [u64_and _ _ (by omega) (by omega) (by omega) (by omega)]
    rfl
  have bAC : bits .and .u64 (A : Int) (C : Int) = ((A &&& C : Nat) : Int) := by
    rw [u64_and _ _ (by omega) (by omega) (by omega) (by omega)]
    simp
  go_enter Tryz.func222, Tryz.ntmps222
  go_upto_region 2 with fail
  obtain ⟨w2, hw2⟩ : ∃ w2, w.alloc (.cells #[.int .i64 (fw : Int), .int .i64 (lw : Int), .int .u64 (A : Int), .int .u64 (C : Int)] 222) = w2 := ⟨_, rfl⟩
  have HB2 : Hid (Below w.heap.size w w2 ∧ Blk w2 p 222 [.int .i64 (fw : Int), .int .i64 (lw : Int), .int .u64 (A : Int), .int .u64 (C : Int)]) := hid (by
    have k1 := Blk.new w [.int .i64 (fw : Int), .int .i64 (lw : Int), .int .u64 (A : Int), .int .u64 (C : Int)] 222
    rw [hp] at k1
    rw [← hw2]
    exact ⟨(Below.refl _ w).alloc (Nat.le_refl _) _, k1⟩)
  (try simp only [hw2])
  clear hw2
  have c0 : w2.cell? ⟨p, 0, none⟩ = some (.int .i64 (fw : Int)) := HB2.out.2.cell 0
  have c1 : w2.cell? ⟨p, 1, none⟩ = some (.int .i64 (lw : Int)) := HB2.out.2.cell 1
  have c2 : w2.cell? ⟨p, 2, none⟩ = some (.int .u64 (A : Int)) := HB2.out.2.cell 2
  have c3 : w2.cell? ⟨p, 3, none⟩ = some (.int .u64 (C : Int)) := HB2.out.2.cell 3
  by_cases e1 : q = fw
  · have d1 : ((q : Int) == (fw : Int)) = true := by simp [e1]
    by_cases e2 : q = lw
    · as_aux_lemma =>
      have d2 : ((q : Int) == (lw : Int)) = true := by simp [e2]
      have HF : Hid (mW lo hi q = A &&& C) := hid (by rw [HM.out, if_pos e1, if_pos e2])
      clear e1 e2 HM
      go_wp2
      go_ret
      exact ⟨by rw [HF.out]; rfl, HB2.out.1⟩
    · as_aux_lemma =>
      have d2 : ((q : Int) == (lw : Int)) = false := by simp; omega
      have HF : Hid (mW lo hi q = A) := hid (by rw [HM.out, if_pos e1, if_neg e2])
      clear e1 e2 HM
      go_wp2
      go_ret
      exact ⟨by rw [HF.out]; rfl, HB2.out.1⟩
  · have d1 : ((q : Int) == (fw : Int)) = false := by simp; omega
    by_cases e2 : q = lw
    · as_aux_lemma =>
      have d2 : ((q : Int) == (lw : Int)) = true := by simp [e2]
      have HF : Hid (mW lo hi q = full4 &&& C) := hid (by rw [HM.out, if_neg e1, if_pos e2])
      clear e1 e2 HM
      go_wp2
      go_ret
      exact ⟨by rw [HF.out]; rfl, HB2.out.1⟩
    · as_aux_lemma =>
      have d2 : ((q : Int) == (lw : Int)) = false := by simp; omega
      have HF : Hid (mW lo hi q = full4) := hid (by rw [HM.out, if_neg e1, if_neg e2])
      clear e1 e2 HM
      go_wp2
      go_ret
      exact ⟨by rw [HF.out]; rfl, HB2.out.1⟩
set_option maxRecDepth 100000 in
set_option maxHeartbeats 1000000 in
theorem nonzero_walk {w : World} {t b : Nat} {f : Nat → Nat} (h : T4 t b f w) (x : Nat) (hx : x < 18446744073709551616) : Calls Tryz.prog 253 #[.pointer (some ⟨t, 0, none⟩), .int .u64 (x : Int)] w fun e w' => e = .returned (.int .u64 ((nz x : Nat) : Int)) ∧ w' = w := by
  obtain ⟨l, k1, _⟩ := h.ws
  have c2 : w.cell? ⟨t, 2, none⟩ = some (.int .u64 4) := k1.tb.cell 2
  have c5 : w.cell? ⟨t, 5, none⟩ = some (.int .u64 1229782938247303441) := k1.tb.cell 5
  clear k1 h
  go_enter Tryz.func253, Tryz.ntmps253
  go_upto_region 2 with fail
  go_loopw [1, 5] (fun v u wr => wr = w ∧ ∃ y : Nat, v = .int .u64 (y : Int) ∧ y < 18446744073709551616 ∧ ((u = .int .u64 1 ∧ Hid (y = x)) ∨ (u = .int .u64 2 ∧ Hid (y = x ||| x >>> 1)) ∨ (u = .int .u64 4 ∧ Hid (y = (x ||| x >>> 1) ||| ((x ||| x >>> 1) >>> 2))))) (fun _ u _ => 4 - (intOf u).toNat)
  case atStart => exact ⟨rfl, x, rfl, hx, .inl ⟨rfl, hid rfl⟩⟩
  case round =>
  obtain ⟨hwr, y, rfl, hy, HX⟩ := hrel
  have hwr' := hwr.symm
  clear hwr
  subst hwr'
  have key : ∀ k : Nat, bits .or .u64 (y : Int) ((y : Int) / 2 ^ k) = ((y ||| y >>> k : Nat) : Int) := fun k => by
    have e : ((y : Int) / 2 ^ k) = ((y / 2 ^ k : Nat) : Int) := by simp
    have h1 : y / 2 ^ k ≤ y := Nat.div_le_self _ _
    rw [e, Nat.shiftRight_eq_div_pow]
    generalize y / 2 ^ k = z at *
    rw [u64_or _ _ (by omega) (by omega) (by omega) (by omega)]
    simp
  have klt : ∀ k : Nat, y ||| y >>> k < 18446744073709551616 := fun k => Nat.or_lt_two_pow (n := 64) hy (Nat.lt_of_le_of_lt (Nat.shiftRight_le y k) hy)
  rcases HX with ⟨rfl, HY⟩ | ⟨rfl, HY⟩ | ⟨rfl, HY⟩
  · as_aux_lemma =>
    have kk : bits .or .u64 (y : Int) ((y : Int) / 2) = ((y ||| y >>> 1 : Nat) : Int) := key 1
    have HK := hid (klt 1)
    clear key klt
    go_wp2
    exact ⟨⟨by trivial, y ||| y >>> 1, rfl, HK.out, .inr (.inl ⟨rfl, hid (by rw [HY.out])⟩)⟩, by simp [intOf]⟩
  · as_aux_lemma =>
    have kk : bits .or .u64 (y : Int) ((y : Int) / 4) = ((y ||| y >>> 2 : Nat) : Int) := key 2
    have HK := hid (klt 2)
    clear key klt
    go_wp2
    exact ⟨⟨by trivial, y ||| y >>> 2, rfl, HK.out, .inr (.inr ⟨rfl, hid (by rw [HY.out])⟩)⟩, by simp [intOf]⟩
  · as_aux_lemma =>
    clear key klt
    have kk : bits .and .u64 (y : Int) 1229782938247303441 = ((y &&& ones4 : Nat) : Int) := by
      rw [u64_and _ _ (by omega) (by omega) (by omega) (by omega)]
      rfl
    go_wp2
    go_ret
    exact ⟨by unfold nz; rw [HY.out]; rfl, rfl⟩
set_option maxRecDepth 100000 in
set_option maxHeartbeats 1000000 in
theorem onesCount_walk (y : Nat) (hy : y < 18446744073709551616) (h : ∀ j, j < 16 → nib y j ≤ 1) (w : World) : Calls Tryz.prog 252 #[.int .u64 (y : Int)] w fun e w' => e = .returned (.int .i64 ((sumN y : Nat) : Int)) ∧ w' = w := by
  have ha := oc_a hy h
  have hb := oc_b hy h
  have hc := oc_c hy h
  have hd := oc_d hy h
  have hs := (oc_sum hy h).1
  have shr : ∀ k : Nat, ((y : Int) / 2 ^ k) = ((y >>> k : Nat) : Int) := fun k => by rw [Nat.shiftRight_eq_div_pow]; simp
  have slt : ∀ k : Nat, y >>> k < 18446744073709551616 := fun k => Nat.lt_of_le_of_lt (Nat.shiftRight_le y k) hy
  have a1 : bits .and .u64 ((y : Int) / 2 ^ 1) 6148914691236517205 = 0 := by
    rw [shr 1, u64_and _ _ (by omega) (by have := slt 1; omega) (by omega) (by omega)]
    show ((y >>> 1 &&& 6148914691236517205 : Nat) : Int) = 0
    rw [ha]; rfl
  have a2 : bits .and .u64 (y : Int) 3689348814741910323 = (y : Int) := by
    rw [u64_and _ _ (by omega) (by omega) (by omega) (by omega)]
    show ((y &&& 3689348814741910323 : Nat) : Int) = y
    rw [hb]
  have a3 : bits .and .u64 ((y : Int) / 2 ^ 2) 3689348814741910323 = 0 := by
    rw [shr 2, u64_and _ _ (by omega) (by have := slt 2; omega) (by omega) (by omega)]
    show ((y >>> 2 &&& 3689348814741910323 : Nat) : Int) = 0
    rw [hc]; rfl
  have a4 : bits .and .u64 ((y : Int) + (y : Int) / 2 ^ 4) 1085102592571150095 = (((y + y >>> 4) &&& 1085102592571150095 : Nat) : Int) := by
    rw [shr 4, show ((y : Int) + ((y >>> 4 : Nat) : Int)) = ((y + y >>> 4 : Nat) : Int) by omega, u64_and _ _ (by omega) (by omega) (by omega) (by omega)]
    rfl
  have hz : (y + y >>> 4) &&& 1085102592571150095 < 18446744073709551616 := and_lt64 _ _ (by decide)
  generalize (y + y >>> 4) &&& 1085102592571150095 = z at *
  have a5 : IntKind.u64.wrap ((z : Int) * 72340172838076673) / 2 ^ 56 = ((sumN y : Nat) : Int) := by
    rw [IntKind.wrap_u64, ← hd, Nat.shiftRight_eq_div_pow]
    have : ((z : Int) * 72340172838076673) % 18446744073709551616 = ((z * 72340172838076673 % 18446744073709551616 : Nat) : Int) := by omega
    rw [this]
    generalize z * 72340172838076673 % 18446744073709551616 = u
    simp only [Nat.reducePow, Int.reducePow]
    omega
  have hu4 : IntKind.u64.wrap ((y : Int) + (y : Int) / 2 ^ 4) = (y : Int) + (y : Int) / 2 ^ 4 := by
    rw [shr 4]
    exact u64_nat (by omega) (by omega)
  have hu0 : IntKind.u64.wrap ((y : Int) - 0) = (y : Int) := by rw [Int.sub_zero]; exact u64_nat (by omega) (by omega)
  have hu1 : IntKind.u64.wrap ((y : Int) + 0) = (y : Int) := by rw [Int.add_zero]; exact u64_nat (by omega) (by omega)
  have hsn : sumN y ≤ 1000 := by
    unfold sumN
    have := nib_lt y 0; have := nib_lt y 1; have := nib_lt y 2; have := nib_lt y 3; have := nib_lt y 4; have := nib_lt y 5; have := nib_lt y 6; have := nib_lt y 7; have := nib_lt y 8; have := nib_lt y 9; have := nib_lt y 10; have := nib_lt y 11; have := nib_lt y 12; have := nib_lt y 13; have := nib_lt y 14; have := nib_lt y 15
    omega
  have hs64 : wrap64 ((sumN y : Nat) : Int) = ((sumN y : Nat) : Int) := by
    generalize sumN y = u at *
    exact wrap64_nat (by omega) (by omega)
  have HH := hid (And.intro a1 (And.intro a2 (And.intro a3 (And.intro a4 (And.intro a5 (And.intro hu4 (And.intro hu0 (And.intro hu1 hs64))))))))
  clear ha hb hc hd hs shr slt h a1 a2 a3 a4 a5 hu4 hu0 hu1 hs64 hsn hz
  go_enter Tryz.func252, Tryz.ntmps252
  go_wp2
  obtain ⟨a1, a2, a3, a4, a5, hu4, hu0, hu1, hs64⟩ := HH.out
  simp only [Int.reducePow] at a1 a2 a3 a4 a5 hu4
  simp only [a1, hu0, a2, a3, hu1, hu4, a4, a5, hs64]
  go_ret
  exact ⟨rfl, rfl⟩
end Go.Proofs.Qxb6500887aGreat
