/- highestBit. -/
import Derived.Test.Qxb6500887aGreatAz4
namespace Go.Proofs.Qxb6500887aGreat
open Go.RowKit
set_option linter.unusedSimpArgs false
set_option linter.unusedVariables false

def hbS (s : Nat) : Prop := s = 32 ∨ s = 16 ∨ s = 8 ∨ s = 4 ∨ s = 2 ∨ s = 1 ∨ s = 0
def bd (s : Nat) : Nat := if s = 0 then 1 else 2 * s
theorem hb_half {s : Nat} (h : hbS s) (h0 : s ≠ 0) : hbS (s / 2) ∧ bd (s / 2) = s ∧ bd s = 2 * s ∧ s ≤ 32 := by
  unfold hbS bd at *
  rcases h with rfl | rfl | rfl | rfl | rfl | rfl | rfl
  · exact ⟨by omega, rfl, rfl, by omega⟩
  · exact ⟨by omega, rfl, rfl, by omega⟩
  · exact ⟨by omega, rfl, rfl, by omega⟩
  · exact ⟨by omega, rfl, rfl, by omega⟩
  · exact ⟨by omega, rfl, rfl, by omega⟩
  · exact ⟨by omega, rfl, rfl, by omega⟩
  · exact absurd rfl h0
/-- Where highestBit stands. -/
structure HbI (y x a s : Nat) : Prop where
  hs : hbS s
  x0 : x ≠ 0
  xl : x < 2 ^ bd s
  ha : a + bd s ≤ 64
  dv : y / 2 ^ a = x
theorem HbI.up {y x a s : Nat} (h : HbI y x a s) (h0 : s ≠ 0) (hn : x / 2 ^ s ≠ 0) : HbI y (x / 2 ^ s) (a + s) (s / 2) := by
  obtain ⟨k1, k2, k3, k4⟩ := hb_half h.hs h0
  have hx := h.xl
  have ha := h.ha
  rw [k3] at hx ha
  refine ⟨k1, hn, ?_, by omega, ?_⟩
  · rw [k2, Nat.div_lt_iff_lt_mul (Nat.pow_pos (by decide)), ← Nat.pow_add, show s + s = 2 * s by omega]
    exact hx
  · rw [Nat.pow_add, ← Nat.div_div_eq_div_mul, h.dv]
theorem HbI.down {y x a s : Nat} (h : HbI y x a s) (h0 : s ≠ 0) (hn : x / 2 ^ s = 0) : HbI y x a (s / 2) := by
  obtain ⟨k1, k2, k3, k4⟩ := hb_half h.hs h0
  have ha := h.ha
  rw [k3] at ha
  refine ⟨k1, h.x0, ?_, by omega, h.dv⟩
  rw [k2]
  have := (Nat.div_eq_zero_iff (a := x) (b := 2 ^ s)).1 hn
  rcases this with h1 | h1
  · have : 0 < 2 ^ s := Nat.pow_pos (by decide)
    omega
  · exact h1
theorem HbI.fin {y x a : Nat} (h : HbI y x a 0) : a < 64 ∧ y.testBit a = true ∧ y < 2 ^ (a + 1) := by
  have hx := h.xl
  have ha := h.ha
  have h0 := h.x0
  have hd := h.dv
  have hb : bd 0 = 1 := rfl
  rw [hb] at hx ha
  have hx1 : x = 1 := by have : (2 : Nat) ^ 1 = 2 := rfl
                         omega
  rw [hx1] at hd
  have hp : 0 < 2 ^ a := Nat.pow_pos (by decide)
  refine ⟨by omega, ?_, ?_⟩
  · rw [Nat.testBit, Nat.shiftRight_eq_div_pow, hd]
    rfl
  · have := (Nat.div_lt_iff_lt_mul hp (x := y) (y := 2)).1 (by omega)
    rw [Nat.pow_succ]
    omega
theorem HbI.start {y : Nat} (hy : y < 18446744073709551616) (h0 : y ≠ 0) : HbI y y 0 32 := ⟨.inl rfl, h0, hy, by decide, by rw [Nat.pow_zero, Nat.div_one]⟩
theorem HbI.bound {y x a s : Nat} (h : HbI y x a s) : a ≤ 64 ∧ x < 18446744073709551616 ∧ s ≤ 32 := by
  have ha := h.ha
  have hb : bd s ≤ 64 := by omega
  refine ⟨by omega, Nat.lt_of_lt_of_le h.xl (Nat.pow_le_pow_right (by decide) hb), ?_⟩
  rcases h.hs with rfl | rfl | rfl | rfl | rfl | rfl | rfl <;> omega
set_option maxRecDepth 100000 in
set_option maxHeartbeats 2000000 in
theorem highestBitG (y : Nat) (hy : y < 18446744073709551616) (h0 : y ≠ 0) (w : World) : Calls Tryz.prog 255 #[.int .u64 (y : Int)] w fun e w' => ∃ k : Nat, e = .returned (.int .i64 (k : Int)) ∧ Hid (k < 64 ∧ y.testBit k = true ∧ y < 2 ^ (k + 1)) ∧ w' = w := by
  have HS := hid (HbI.start hy h0)
  go_enter Tryz.func255, Tryz.ntmps255
  go_upto_region 3 with fail
  go_loopw [0, 3, 4] (fun u v z wr => wr = w ∧ ∃ x a s : Nat, u = .int .u64 (x : Int) ∧ v = .int .i64 (a : Int) ∧ z = .int .u64 (s : Int) ∧ Hid (HbI y x a s)) (fun _ _ z _ => (intOf z).toNat)
  case atStart => exact ⟨rfl, y, 0, 32, rfl, rfl, rfl, HS⟩
  case round =>
  clear HS
  obtain ⟨hwr, x, a, s, rfl, rfl, rfl, HK⟩ := hrel
  have hwr' := hwr.symm
  clear hwr
  subst hwr'
  obtain ⟨hb1, hb2, hb3⟩ := HK.out.bound
  by_cases hs0 : s = 0
  · as_aux_lemma =>
    subst hs0
    have HF := hid HK.out.fin
    go_wp2
    go_ret
    exact ⟨a, rfl, HF, rfl⟩
  have ds : decide ((s : Int) > 0) = true := decide_eq_true (by omega)
  have hs2 : (s : Int) / 2 = ((s / 2 : Nat) : Int) := by omega
  have hlt : s / 2 < s := by omega
  have e1 : (x : Int) / 2 ^ s = ((x / 2 ^ s : Nat) : Int) := by simp
  have hle : x / 2 ^ s ≤ x := Nat.div_le_self _ _
  have HE1 := hid e1
  by_cases hz : x / 2 ^ s = 0
  · as_aux_lemma =>
    have dz : ((x : Int) / 2 ^ s == 0) = true := by rw [HE1.out, hz]; rfl
    have HF := hid (HK.out.down hs0 hz)
    clear HK e1 hle hz
    generalize s / 2 = s' at *
    go_wp2
    exact ⟨⟨by trivial, x, a, s', rfl, rfl, rfl, HF⟩, by simp [intOf]; omega⟩
  · as_aux_lemma =>
    have dz : ((x : Int) / 2 ^ s == 0) = false := by rw [HE1.out]; simp; omega
    have HF := hid (HK.out.up hs0 hz)
    clear HK e1 hz
    generalize s / 2 = s' at *
    go_wp2
    refine ⟨⟨by trivial, x / 2 ^ s, a + s, s', by rw [HE1.out], by go_num, rfl, HF⟩, by simp [intOf]; omega⟩
end Go.Proofs.Qxb6500887aGreat
