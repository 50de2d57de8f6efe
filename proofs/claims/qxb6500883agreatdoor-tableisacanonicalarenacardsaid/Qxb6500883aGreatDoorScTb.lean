/- Texts of scripts: gaps, expressions (written by tools/mk_tx.py). -/
import Derived.Test.Qxb6500883aGreatDoorScTm
import Derived.Test.Qxb6500883aGreatDoorHeavy
namespace Go.Proofs.Qxb6500883aGreatDoor
open Go.RowKit
set_option linter.unusedSimpArgs false
set_option linter.unusedVariables false
section
variable {w w' : World} {n0 : Nat} {v v' : Value} {bs : List UInt8} {g ty co N mg : Nat}
set_option maxRecDepth 100000 in
set_option maxHeartbeats 2000000 in
theorem gapW (hd : Dw w g ty co) (hg : n0 ≤ g) (hr : OwR rtB n0 w v bs) (h0 : n0 ≤ w.heap.size) (hl : bs.length ≤ 90000000000000) : Calls Tryz.prog 69 #[.pointer (some ⟨g, 0, none⟩), v] w fun e w' => ∃ v', e = .returned v' ∧ Hid (Tx n0 w bs 24 w' v') := by
  have HT0 := hid (Tx.start hr)
  have HD := hid hd
  clear hr hd
  go_enter Tryz.func69, Tryz.ntmps69
  go_wp2_with (at_builtin; refine stopHere ?_)
  have HD_ := hid (HT0.out.kd _ _ _ HD.out)
  refine (belowW HD_.out 24 (by decide) (by omega)).mono ?_
  rintro e w1_ ⟨r, rfl, hr, HU_⟩
  have HT1 : Hid (Tx n0 w bs (0) w1_ v) := hid (HT0.out.drawn h0 hg HD_.out HU_.out)
  clear HU_ HD_ HT0
  obtain rfl | rfl | rfl | rfl | hr4 : r = 0 ∨ r = 1 ∨ r = 2 ∨ r = 3 ∨ 4 ≤ r := by omega
  · go_wp2_with (at_builtin; refine stopHere ?_)
    intro _
    obtain ⟨ds_, hds_, hr_⟩ := HT1.out.row
    have HR_ := hid hr_
    have hz_ := Nat.le_trans h0 HT1.out.bel.size
    clear hr_
    refine wpList_app_n rfl _ _ [32] HR_.out rfl rfl _ rfl 1 rfl rfl (by rw [List.length_append]; omega) hz_ ?_
    intro v2_ w2_ HF_
    have HT2 : Hid (Tx n0 w bs (0 + 1) w2_ v2_) := hid (HT1.out.trans hds_ HF_.out.tx)
    clear HF_ HR_ hds_ hz_ HT1
    have HQ_ : Hid (Tx n0 w bs (24) w2_ v2_) := hid (HT2.out.mono (by omega))
    clear HT2
    go_wp2
    go_ret
    exact ⟨_, rfl, HQ_⟩
  · go_wp2_with (at_builtin; refine stopHere ?_)
    intro _
    obtain ⟨ds_, hds_, hr_⟩ := HT1.out.row
    have HR_ := hid hr_
    have hz_ := Nat.le_trans h0 HT1.out.bel.size
    clear hr_
    refine wpList_app_t rfl _ _ HR_.out rfl rfl _ rfl 2 (by decide) (by rw [List.length_append]; omega) hz_ ?_
    intro v2_ w2_ HF_
    have HT2 : Hid (Tx n0 w bs (0 + 2) w2_ v2_) := hid (HT1.out.trans hds_ HF_.out.tx)
    clear HF_ HR_ hds_ hz_ HT1
    have HQ_ : Hid (Tx n0 w bs (24) w2_ v2_) := hid (HT2.out.mono (by omega))
    clear HT2
    go_wp2
    go_ret
    exact ⟨_, rfl, HQ_⟩
  · go_wp2_with (at_builtin; refine stopHere ?_)
    intro _
    obtain ⟨ds_, hds_, hr_⟩ := HT1.out.row
    have HR_ := hid hr_
    have hz_ := Nat.le_trans h0 HT1.out.bel.size
    clear hr_
    refine wpList_app_t rfl _ _ HR_.out rfl rfl _ rfl 24 (by decide) (by rw [List.length_append]; omega) hz_ ?_
    intro v2_ w2_ HF_
    have HT2 : Hid (Tx n0 w bs (0 + 24) w2_ v2_) := hid (HT1.out.trans hds_ HF_.out.tx)
    clear HF_ HR_ hds_ hz_ HT1
    have HQ_ : Hid (Tx n0 w bs (24) w2_ v2_) := hid (HT2.out.mono (by omega))
    clear HT2
    go_wp2
    go_ret
    exact ⟨_, rfl, HQ_⟩
  · go_wp2_with (at_builtin; refine stopHere ?_)
    intro _
    obtain ⟨ds_, hds_, hr_⟩ := HT1.out.row
    have HR_ := hid hr_
    have hz_ := Nat.le_trans h0 HT1.out.bel.size
    clear hr_
    refine wpList_app_t rfl _ _ HR_.out rfl rfl _ rfl 2 (by decide) (by rw [List.length_append]; omega) hz_ ?_
    intro v2_ w2_ HF_
    have HT2 : Hid (Tx n0 w bs (0 + 2) w2_ v2_) := hid (HT1.out.trans hds_ HF_.out.tx)
    clear HF_ HR_ hds_ hz_ HT1
    have HQ_ : Hid (Tx n0 w bs (24) w2_ v2_) := hid (HT2.out.mono (by omega))
    clear HT2
    go_wp2
    go_ret
    exact ⟨_, rfl, HQ_⟩
  · have d0 : ((r : Int) == 0) = false := by simp; omega
    have d1 : ((r : Int) == 1) = false := by simp; omega
    have d2 : ((r : Int) == 2) = false := by simp; omega
    have d3 : ((r : Int) == 3) = false := by simp; omega
    have HQ_ : Hid (Tx n0 w bs (24) w1_ v) := hid (HT1.out.mono (by omega))
    clear HT1
    go_wp2
    go_ret
    exact ⟨_, rfl, HQ_⟩
theorem laL_sz : ∀ s ∈ laL, s.size ≤ 20 := by decide
theorem baL_sz : ∀ s ∈ baL, s.size ≤ 7 := by decide
/-- A built row of bytes is one's own. -/
theorem OwR.built (w : World) (ys : List UInt8) (n : Nat) (hn : ys.length = n) (hm : n ≤ 1000000) : OwR rtB w.heap.size (w.alloc (.cells (ys.map byV).toArray 5)) (.slice (some ⟨w.heap.size, 0, none⟩) n n) ys := by
  have k := Blk.new w (ys.map byV) 5
  refine ⟨by rw [rtB_flat, List.length_map]; show ys.length = ys.length * 1; omega, .inr ⟨w.heap.size, n, (ys.map byV).toArray, by rw [hn], Nat.le_refl _, k, by omega, by unfold maxLen; omega, by show (ys.map byV).toArray.size = n * 1; simp; omega, ?_⟩⟩
  rw [rtB_flat]
  show (ys.map byV).take (ys.length * 1) = _
  rw [Nat.mul_one, List.take_of_length_le (by rw [List.length_map]; exact Nat.le_refl _)]
/-- Blocks past n1 may have changed. -/
theorem Tx.below2 {k n1 : Nat} (h : Tx n0 w bs k w' v') {w'' : World} (hs : w.heap.size ≤ n1) (hv : ∀ k, v'.ownBlock = some k → k < n1) (h0 : n0 ≤ n1) (hb : Below n1 w' w'') : Tx n0 w bs k w'' v' := by
  obtain ⟨ds, h1, h2⟩ := h.row
  have lt : ∀ {g t cs}, Blk w g t cs → g < n1 := fun hb => Nat.lt_of_lt_of_le hb.lt hs
  exact ⟨⟨ds, h1, h2.of (fun g hg _ => hb.block g (hv g hg))⟩, h.bel.trans (hb.mono h0), fun g ty co hg => by
    obtain ⟨s, a1, a2⟩ := h.kd g ty co hg
    obtain ⟨_, b1, _⟩ := hg
    exact ⟨s, a1.of (hb.block g (lt b1)), a2⟩, fun g t cs hg ht hu => (h.kt g t cs hg ht hu).of (hb.block g (lt hg))⟩
def exK : Nat → Nat
  | 0 => 22
  | k + 1 => 2 * exK k + 50
theorem exK_0 : exK 0 = 22 := rfl
theorem exK_s (k : Nat) : exK (k + 1) = 2 * exK k + 50 := rfl
theorem exK_ge : ∀ k, 22 ≤ exK k
  | 0 => Nat.le_refl _
  | k + 1 => by rw [exK_s]; have := exK_ge k; omega
theorem exK_le : ∀ {k : Nat}, k ≤ 3 → exK k ≤ 526
  | 0, _ => by decide
  | 1, _ => by decide
  | 2, _ => by decide
  | 3, _ => by decide
  | k + 4, h => by omega
/-- What expr does with a given room. -/
def ExTC (n0 N mg g ty co k : Nat) : Prop := ∀ (w : World) (v : Value) (bs : List UInt8), Gl N mg w → Dw w g ty co → OwR rtB n0 w v bs → n0 ≤ w.heap.size → bs.length + exK k ≤ 80000000000000 → Calls Tryz.prog 70 #[.pointer (some ⟨g, 0, none⟩), v, .int .i64 (k : Int)] w fun e w' => ∃ v', e = .returned v' ∧ Hid (Tx n0 w bs (exK k) w' v')
set_option maxRecDepth 100000 in
set_option maxHeartbeats 8000000 in
theorem expr0 (hg : n0 ≤ g) (hN : N ≤ n0) : ExTC n0 N mg g ty co 0 := by
  intro w v bs hgl hd hr h0 hl
  have HT0 := hid (Tx.start hr)
  have HD := hid hd
  have HG := hid hgl
  have hK := exK_0
  obtain ⟨s_, hb_, hs_, hty, hco⟩ := HD.out
  have dc : ∀ (wz : World), Dw wz g ty co → wz.cell? ⟨g, 2, none⟩ = some (.int .u64 (co : Int)) := fun wz ⟨_, hb, _⟩ => hb.cell 2
  clear hr hd hgl hb_ hs_
  go_enter Tryz.func70, Tryz.ntmps70
  go_wp2_with (at_builtin; refine stopHere ?_)
  have HD_ := hid (HT0.out.kd _ _ _ HD.out)
  refine (belowW HD_.out 20 (by decide) (by omega)).mono ?_
  rintro e w1_ ⟨r, rfl, hr, HU_⟩
  have HT1 : Hid (Tx n0 w bs (0) w1_ v) := hid (HT0.out.drawn h0 hg HD_.out HU_.out)
  clear HU_ HD_ HT0
  obtain ⟨c, hc, hc10⟩ : ∃ c : Nat, (r : Int) % 10 = (c : Int) ∧ c < 10 := ⟨r % 10, by omega, by omega⟩
  obtain rfl | rfl | rfl | rfl | rfl | rfl | rfl | rfl | rfl | rfl : c = 0 ∨ c = 1 ∨ c = 2 ∨ c = 3 ∨ c = 4 ∨ c = 5 ∨ c = 6 ∨ c = 7 ∨ c = 8 ∨ c = 9 := by omega
  · go_wp2_with (at_builtin; refine stopHere ?_)
    have HD_ := hid (HT1.out.kd _ _ _ HD.out)
    refine (belowW HD_.out 10 (by decide) (by omega)).mono ?_
    rintro e w2_ ⟨q, rfl, hq, HU_⟩
    have HT2 : Hid (Tx n0 w bs (0) w2_ v) := hid (HT1.out.drawn h0 hg HD_.out HU_.out)
    clear HU_ HD_ HT1
    go_wp2_with (at_builtin; refine stopHere ?_)
    obtain ⟨ds_, hds_, hr_⟩ := HT2.out.row
    have HR_ := hid hr_
    have hz_ := Nat.le_trans h0 HT2.out.bel.size
    clear hr_
    refine (appendNumberW 10 (by decide) 0 q (by omega) (by omega) HR_.out hz_ (by rw [List.length_append]; omega)).mono ?_
    rintro e w3_ ⟨v3_, rfl, HF_⟩
    have HT3 : Hid (Tx n0 w bs (0 + 1) w3_ v3_) := hid (HT2.out.trans hds_ HF_.out.tx)
    clear HF_ HR_ hds_ hz_ HT2
    have HQ_ : Hid (Tx n0 w bs (exK 0) w3_ v3_) := hid (HT3.out.mono (by omega))
    clear HT3
    go_wp2
    go_ret
    exact ⟨_, rfl, HQ_⟩
  · go_wp2_with (at_builtin; refine stopHere ?_)
    have HD_ := hid (HT1.out.kd _ _ _ HD.out)
    refine (belowW HD_.out 10 (by decide) (by omega)).mono ?_
    rintro e w2_ ⟨q, rfl, hq, HU_⟩
    have HT2 : Hid (Tx n0 w bs (0) w2_ v) := hid (HT1.out.drawn h0 hg HD_.out HU_.out)
    clear HU_ HD_ HT1
    go_wp2_with (at_builtin; refine stopHere ?_)
    obtain ⟨ds_, hds_, hr_⟩ := HT2.out.row
    have HR_ := hid hr_
    have hz_ := Nat.le_trans h0 HT2.out.bel.size
    clear hr_
    refine (appendNumberW 10 (by decide) 0 q (by omega) (by omega) HR_.out hz_ (by rw [List.length_append]; omega)).mono ?_
    rintro e w3_ ⟨v3_, rfl, HF_⟩
    have HT3 : Hid (Tx n0 w bs (0 + 1) w3_ v3_) := hid (HT2.out.trans hds_ HF_.out.tx)
    clear HF_ HR_ hds_ hz_ HT2
    have HQ_ : Hid (Tx n0 w bs (exK 0) w3_ v3_) := hid (HT3.out.mono (by omega))
    clear HT3
    go_wp2
    go_ret
    exact ⟨_, rfl, HQ_⟩
  · go_wp2_with (at_builtin; refine stopHere ?_)
    have HD_ := hid (HT1.out.kd _ _ _ HD.out)
    refine (belowW HD_.out 10 (by decide) (by omega)).mono ?_
    rintro e w2_ ⟨q, rfl, hq, HU_⟩
    have HT2 : Hid (Tx n0 w bs (0) w2_ v) := hid (HT1.out.drawn h0 hg HD_.out HU_.out)
    clear HU_ HD_ HT1
    go_wp2_with (at_builtin; refine stopHere ?_)
    obtain ⟨ds_, hds_, hr_⟩ := HT2.out.row
    have HR_ := hid hr_
    have hz_ := Nat.le_trans h0 HT2.out.bel.size
    clear hr_
    refine (appendNumberW 10 (by decide) 0 q (by omega) (by omega) HR_.out hz_ (by rw [List.length_append]; omega)).mono ?_
    rintro e w3_ ⟨v3_, rfl, HF_⟩
    have HT3 : Hid (Tx n0 w bs (0 + 1) w3_ v3_) := hid (HT2.out.trans hds_ HF_.out.tx)
    clear HF_ HR_ hds_ hz_ HT2
    have HQ_ : Hid (Tx n0 w bs (exK 0) w3_ v3_) := hid (HT3.out.mono (by omega))
    clear HT3
    go_wp2
    go_ret
    exact ⟨_, rfl, HQ_⟩
  · go_wp2_with (at_builtin; refine stopHere ?_)
    have HD_ := hid (HT1.out.kd _ _ _ HD.out)
    refine (belowW HD_.out 10 (by decide) (by omega)).mono ?_
    rintro e w2_ ⟨q, rfl, hq, HU_⟩
    have HT2 : Hid (Tx n0 w bs (0) w2_ v) := hid (HT1.out.drawn h0 hg HD_.out HU_.out)
    clear HU_ HD_ HT1
    go_wp2_with (at_builtin; refine stopHere ?_)
    obtain ⟨ds_, hds_, hr_⟩ := HT2.out.row
    have HR_ := hid hr_
    have hz_ := Nat.le_trans h0 HT2.out.bel.size
    clear hr_
    refine (appendNumberW 10 (by decide) 0 q (by omega) (by omega) HR_.out hz_ (by rw [List.length_append]; omega)).mono ?_
    rintro e w3_ ⟨v3_, rfl, HF_⟩
    have HT3 : Hid (Tx n0 w bs (0 + 1) w3_ v3_) := hid (HT2.out.trans hds_ HF_.out.tx)
    clear HF_ HR_ hds_ hz_ HT2
    have HQ_ : Hid (Tx n0 w bs (exK 0) w3_ v3_) := hid (HT3.out.mono (by omega))
    clear HT3
    go_wp2
    go_ret
    exact ⟨_, rfl, HQ_⟩
  · go_wp2_with (at_builtin; refine stopHere ?_)
    have HD_ := hid (HT1.out.kd _ _ _ HD.out)
    refine (belowW HD_.out 10 (by decide) (by omega)).mono ?_
    rintro e w2_ ⟨q, rfl, hq, HU_⟩
    have HT2 : Hid (Tx n0 w bs (0) w2_ v) := hid (HT1.out.drawn h0 hg HD_.out HU_.out)
    clear HU_ HD_ HT1
    go_wp2_with (at_builtin; refine stopHere ?_)
    obtain ⟨ds_, hds_, hr_⟩ := HT2.out.row
    have HR_ := hid hr_
    have hz_ := Nat.le_trans h0 HT2.out.bel.size
    clear hr_
    refine (appendNumberW 10 (by decide) 0 q (by omega) (by omega) HR_.out hz_ (by rw [List.length_append]; omega)).mono ?_
    rintro e w3_ ⟨v3_, rfl, HF_⟩
    have HT3 : Hid (Tx n0 w bs (0 + 1) w3_ v3_) := hid (HT2.out.trans hds_ HF_.out.tx)
    clear HF_ HR_ hds_ hz_ HT2
    have HQ_ : Hid (Tx n0 w bs (exK 0) w3_ v3_) := hid (HT3.out.mono (by omega))
    clear HT3
    go_wp2
    go_ret
    exact ⟨_, rfl, HQ_⟩
  · go_wp2_with (at_builtin; refine stopHere ?_)
    have HD_ := hid (HT1.out.kd _ _ _ HD.out)
    refine (belowW HD_.out 70 (by decide) (by omega)).mono ?_
    rintro e w2_ ⟨q, rfl, hq, HU_⟩
    have HT2 : Hid (Tx n0 w bs (0) w2_ v) := hid (HT1.out.drawn h0 hg HD_.out HU_.out)
    clear HU_ HD_ HT1
    go_wp2_with (at_builtin; refine stopHere ?_)
    obtain ⟨ds_, hds_, hr_⟩ := HT2.out.row
    have HR_ := hid hr_
    have hz_ := Nat.le_trans h0 HT2.out.bel.size
    clear hr_
    refine (appendNumberW 10 (by decide) 1 q (by omega) (by omega) HR_.out hz_ (by rw [List.length_append]; omega)).mono ?_
    rintro e w3_ ⟨v3_, rfl, HF_⟩
    have HT3 : Hid (Tx n0 w bs (0 + 2) w3_ v3_) := hid (HT2.out.trans hds_ HF_.out.tx)
    clear HF_ HR_ hds_ hz_ HT2
    have HQ_ : Hid (Tx n0 w bs (exK 0) w3_ v3_) := hid (HT3.out.mono (by omega))
    clear HT3
    go_wp2
    go_ret
    exact ⟨_, rfl, HQ_⟩
  · have c2_ := dc _ (HT1.out.kd _ _ _ HD.out)
    by_cases hc0 : co = 0
    · subst hc0
      go_wp2_with (at_builtin; refine stopHere ?_)
      have HD_ := hid (HT1.out.kd _ _ _ HD.out)
      refine (belowW HD_.out 4 (by decide) (by omega)).mono ?_
      rintro e w2_ ⟨q, rfl, hq, HU_⟩
      have HT2 : Hid (Tx n0 w bs (0) w2_ v) := hid (HT1.out.drawn h0 hg HD_.out HU_.out)
      clear HU_ HD_ HT1
      obtain ⟨m, em, hm⟩ : ∃ m : Nat, IntKind.u64.wrap (1 + (q : Int)) = (m : Int) ∧ m < 5 := ⟨1 + q, by rw [IntKind.wrap_u64]; omega, by omega⟩
      go_wp2_with (at_builtin; refine stopHere ?_)
      obtain ⟨ds_, hds_, hr_⟩ := HT2.out.row
      have HR_ := hid hr_
      have hz_ := Nat.le_trans h0 HT2.out.bel.size
      clear hr_
      refine (appendNumberW 10 (by decide) 0 m (by omega) (by omega) HR_.out hz_ (by rw [List.length_append]; omega)).mono ?_
      rintro e w3_ ⟨v3_, rfl, HF_⟩
      have HT3 : Hid (Tx n0 w bs (0 + 1) w3_ v3_) := hid (HT2.out.trans hds_ HF_.out.tx)
      clear HF_ HR_ hds_ hz_ HT2
      have HQ_ : Hid (Tx n0 w bs (exK 0) w3_ v3_) := hid (HT3.out.mono (by omega))
      clear HT3
      go_wp2
      go_ret
      exact ⟨_, rfl, HQ_⟩
    · have dq_ : decide ((0 : Int) < (co : Int)) = true := decide_eq_true (by omega)
      have dq2_ : 0 < co := by omega
      go_wp2_with (at_builtin; refine stopHere ?_)
      have HD_ := hid (HT1.out.kd _ _ _ HD.out)
      refine (belowW HD_.out co (by omega) (by omega)).mono ?_
      rintro e w2_ ⟨q, rfl, hq, HU_⟩
      have HT2 : Hid (Tx n0 w bs (0) w2_ v) := hid (HT1.out.drawn h0 hg HD_.out HU_.out)
      clear HU_ HD_ HT1
      go_wp2_with (at_builtin; refine stopHere ?_)
      refine (constNameW q (by omega) _).mono ?_
      rintro e w3_ ⟨s, rfl, hs, HB_⟩
      have HT3 : Hid (Tx n0 w bs (0) w3_ v) := hid (HT2.out.below h0 HB_.out)
      clear HB_ HT2
      go_wp2_with (at_builtin; refine stopHere ?_)
      intro _
      obtain ⟨ds_, hds_, hr_⟩ := HT3.out.row
      have HR_ := hid hr_
      have hz_ := Nat.le_trans h0 HT3.out.bel.size
      clear hr_
      refine wpList_app_t rfl _ _ HR_.out rfl rfl _ rfl 2 (hs) (by rw [List.length_append]; omega) hz_ ?_
      intro v4_ w4_ HF_
      have HT4 : Hid (Tx n0 w bs (0 + 2) w4_ v4_) := hid (HT3.out.trans hds_ HF_.out.tx)
      clear HF_ HR_ hds_ hz_ HT3
      have HQ_ : Hid (Tx n0 w bs (exK 0) w4_ v4_) := hid (HT4.out.mono (by omega))
      clear HT4
      go_wp2
      go_ret
      exact ⟨_, rfl, HQ_⟩
  · have c2_ := dc _ (HT1.out.kd _ _ _ HD.out)
    by_cases hc0 : co = 0
    · subst hc0
      go_wp2_with (at_builtin; refine stopHere ?_)
      have HD_ := hid (HT1.out.kd _ _ _ HD.out)
      refine (belowW HD_.out 4 (by decide) (by omega)).mono ?_
      rintro e w2_ ⟨q, rfl, hq, HU_⟩
      have HT2 : Hid (Tx n0 w bs (0) w2_ v) := hid (HT1.out.drawn h0 hg HD_.out HU_.out)
      clear HU_ HD_ HT1
      obtain ⟨m, em, hm⟩ : ∃ m : Nat, IntKind.u64.wrap (1 + (q : Int)) = (m : Int) ∧ m < 5 := ⟨1 + q, by rw [IntKind.wrap_u64]; omega, by omega⟩
      go_wp2_with (at_builtin; refine stopHere ?_)
      obtain ⟨ds_, hds_, hr_⟩ := HT2.out.row
      have HR_ := hid hr_
      have hz_ := Nat.le_trans h0 HT2.out.bel.size
      clear hr_
      refine (appendNumberW 10 (by decide) 0 m (by omega) (by omega) HR_.out hz_ (by rw [List.length_append]; omega)).mono ?_
      rintro e w3_ ⟨v3_, rfl, HF_⟩
      have HT3 : Hid (Tx n0 w bs (0 + 1) w3_ v3_) := hid (HT2.out.trans hds_ HF_.out.tx)
      clear HF_ HR_ hds_ hz_ HT2
      have HQ_ : Hid (Tx n0 w bs (exK 0) w3_ v3_) := hid (HT3.out.mono (by omega))
      clear HT3
      go_wp2
      go_ret
      exact ⟨_, rfl, HQ_⟩
    · have dq_ : decide ((0 : Int) < (co : Int)) = true := decide_eq_true (by omega)
      have dq2_ : 0 < co := by omega
      go_wp2_with (at_builtin; refine stopHere ?_)
      have HD_ := hid (HT1.out.kd _ _ _ HD.out)
      refine (belowW HD_.out co (by omega) (by omega)).mono ?_
      rintro e w2_ ⟨q, rfl, hq, HU_⟩
      have HT2 : Hid (Tx n0 w bs (0) w2_ v) := hid (HT1.out.drawn h0 hg HD_.out HU_.out)
      clear HU_ HD_ HT1
      go_wp2_with (at_builtin; refine stopHere ?_)
      refine (constNameW q (by omega) _).mono ?_
      rintro e w3_ ⟨s, rfl, hs, HB_⟩
      have HT3 : Hid (Tx n0 w bs (0) w3_ v) := hid (HT2.out.below h0 HB_.out)
      clear HB_ HT2
      go_wp2_with (at_builtin; refine stopHere ?_)
      intro _
      obtain ⟨ds_, hds_, hr_⟩ := HT3.out.row
      have HR_ := hid hr_
      have hz_ := Nat.le_trans h0 HT3.out.bel.size
      clear hr_
      refine wpList_app_t rfl _ _ HR_.out rfl rfl _ rfl 2 (hs) (by rw [List.length_append]; omega) hz_ ?_
      intro v4_ w4_ HF_
      have HT4 : Hid (Tx n0 w bs (0 + 2) w4_ v4_) := hid (HT3.out.trans hds_ HF_.out.tx)
      clear HF_ HR_ hds_ hz_ HT3
      have HQ_ : Hid (Tx n0 w bs (exK 0) w4_ v4_) := hid (HT4.out.mono (by omega))
      clear HT4
      go_wp2
      go_ret
      exact ⟨_, rfl, HQ_⟩
  · obtain ⟨n1, hn1⟩ : ∃ n, w1_.heap.size = n := ⟨_, rfl⟩
    have hcc := Go.Lib.run_convert_bytes_const (P := Tryz.prog) w1_ 28 5 #[.int .u8 48, .int .u8 120] 2 2 Tryz.underlying28 Tryz.underlying5
    have HO_ : Hid (Fm n1 (w1_.alloc (.cells #[.int .u8 48, .int .u8 120] 5 (2, 3))) n1 [48, 120]) := hid ⟨⟨_, by rw [← hn1]; exact heap_alloc_new w1_ _⟩, Nat.le_refl _⟩
    rw [hn1] at hcc
    simp only [List.size_toArray, List.length_cons, List.length_nil, Nat.zero_add, Nat.reduceAdd] at hcc
    have hv_ : ∀ k, Value.ownBlock v = some k → k < n1 := fun k hk => by obtain ⟨_, _, h⟩ := HT1.out.row; have := h.lt k hk; omega
    have hs1_ : w.heap.size ≤ n1 := by have := HT1.out.bel.size; omega
    have hgn_ : g < n1 := by obtain ⟨_, hb, _⟩ := HT1.out.kd _ _ _ HD.out; have := hb.lt; omega
    clear hco
    go_wp2_with (at_builtin; refine stopHere ?_)
    generalize hwq_ : World.alloc _ _ = w2_ at HO_ ⊢
    have HT2 : Hid (Tx n0 w bs (0) w2_ v) := hid (by rw [← hwq_]; exact HT1.out.below h0 (nbel _ _))
    clear hwq_ hn1 hcc HT1
    have HD_ := hid (HT2.out.kd _ _ _ HD.out)
    refine (belowW HD_.out 300 (by decide) (by omega)).mono ?_
    rintro e w3_ ⟨q, rfl, hq, HU_⟩
    have HT3 : Hid (Tx n0 w bs (0) w3_ v) := hid (HT2.out.drawn h0 hg HD_.out HU_.out)
    have HO3_ : Hid (Fm n1 w3_ n1 [48, 120]) := hid (HO_.out.upd HU_.out.1 hgn_)
    have hz3_ : n1 ≤ w3_.heap.size := by have := HO3_.out.lt; omega
    clear HU_ HD_ HO_ HT2
    go_wp2_with (at_builtin; refine stopHere ?_)
    refine (appendNumberF 16 (by decide) 2 2 q rfl (by omega) (by omega) HO3_.out hz3_ (by decide)).mono ?_
    rintro e w4_ ⟨v4, rfl, HA_⟩
    have HT4 : Hid (Tx n0 w bs (0) w4_ v) := hid (HT3.out.below2 hs1_ hv_ (Nat.le_trans h0 hs1_) HA_.out.1)
    obtain ⟨_, es_, hes_, hre_⟩ := HA_.out
    obtain ⟨a4, q4, rfl⟩ := hre_.shape
    have hcv := hre_.str
    have hsz : (⟨([48, 120] ++ es_).toArray⟩ : ByteArray).size ≤ 5 := by show ([48, 120] ++ es_).toArray.size ≤ 5; simp; omega
    generalize (⟨([48, 120] ++ es_).toArray⟩ : ByteArray) = ss at hcv hsz
    generalize ([48, 120] ++ es_).length = m2 at hcv ⊢
    clear hre_ HA_ HO3_ HT3
    go_wp2_with (at_builtin; refine stopHere ?_)
    intro _
    obtain ⟨ds_, hds_, hr_⟩ := HT4.out.row
    have HR_ := hid hr_
    have hz_ := Nat.le_trans h0 HT4.out.bel.size
    clear hr_
    refine wpList_app_t rfl _ _ HR_.out rfl rfl _ rfl 5 (hsz) (by rw [List.length_append]; omega) hz_ ?_
    intro v5_ w5_ HF_
    have HT5 : Hid (Tx n0 w bs (0 + 5) w5_ v5_) := hid (HT4.out.trans hds_ HF_.out.tx)
    clear HF_ HR_ hds_ hz_ HT4
    have HQ_ : Hid (Tx n0 w bs (exK 0) w5_ v5_) := hid (HT5.out.mono (by omega))
    clear HT5
    go_wp2
    go_ret
    exact ⟨_, rfl, HQ_⟩
  · go_wp2_with (at_builtin; refine stopHere ?_)
    have HD_ := hid (HT1.out.kd _ _ _ HD.out)
    refine (belowW HD_.out 4 (by decide) (by omega)).mono ?_
    rintro e w2_ ⟨q, rfl, hq, HU_⟩
    have HT2 : Hid (Tx n0 w bs (0) w2_ v) := hid (HT1.out.drawn h0 hg HD_.out HU_.out)
    clear HU_ HD_ HT1
    by_cases hq0 : q = 0
    · subst hq0
      obtain ⟨gb, go, gc, hS0⟩ := (HG.out.below (HT2.out.bel.mono hN)).la
      go_upto_region 22 with fail
      have HS_ : Hid (SRow N 1 laL (w2_.drew) gb go gc) := hid ⟨hS0.lt, hS0.c, hS0.row⟩
      have HT3 : Hid (Tx n0 w bs (0) w2_.drew v) := hid (HT2.out.below h0 (Drew.below ⟨1, rfl⟩ _))
      clear hS0 HT2
      refine wp_region_hlh (fun wz => SRow N 1 laL wz gb go gc) 12 [0, 1, 2, 3, 4, 5] [6] [7, 8, 9, 10] [11] rfl (by kernel_rfl) (by kernel_rfl) (fun d _ _ _ _ h => by cases d <;> exact h) HS_.out ?_
      apply Exists.intro
      refine ⟨?_, ?_⟩
      · intro W hW
        have q1 : ∀ z, (W z).cell? ⟨1, 0, none⟩ = some (.slice (some ⟨gb, go, none⟩) 32 gc) := fun z => (hW z).c
        clear hW
        simp only [List.take, opsAt, List.drop, List.cons_append, List.nil_append]
        repeat (go_big_quiet_step (fail))
        exact rfl
      simp only [List.take, List.drop, opsAt, List.cons_append, List.nil_append, wpHvK]
      generalize w2_.drew = w3_ at HS_ HT3 ⊢
      have HD_ := hid (HT3.out.kd _ _ _ HD.out)
      go_wp2_with fail
      refine (belowW HD_.out 32 (by decide) (by omega)).mono ?_
      rintro e w4_ ⟨r2, rfl, hr2, HU_⟩
      have HT4 : Hid (Tx n0 w bs (0) w4_ v) := hid (HT3.out.drawn h0 hg HD_.out HU_.out)
      have HS2_ : Hid (SRow N 1 laL w4_ gb go gc) := hid (HS_.out.below (by have := HG.out.n6; omega) (HU_.out.1.below (Nat.le_trans hN hg) (Nat.le_trans (Nat.le_trans hN h0) HT3.out.bel.size)))
      clear HU_ HD_ HS_ HT3
      obtain ⟨s, hs, hsz⟩ : ∃ s, laL[r2]? = some s ∧ s.size ≤ 20 := ⟨_, List.getElem?_eq_getElem (show r2 < laL.length from hr2), laL_sz _ (List.getElem_mem _)⟩
      have i1 : (r2 : Int) < 32 := by omega
      go_wp2_with fail
      refine ⟨HS2_.out, ?_⟩
      apply Exists.intro
      refine ⟨?_, ?_⟩
      · intro W hW
        have q2 : ∀ z, (W z).cell? ⟨gb, go + r2, none⟩ = some (.string s) := fun z => (hW z).row r2 s hs
        clear hW
        (try simp only [List.take, opsAt, List.drop, List.cons_append, List.nil_append])
        repeat (go_big_quiet_step (fail))
        exact rfl
      (try simp only [wpHv, opsAt, List.take, List.drop, List.cons_append, List.nil_append])
      obtain ⟨ds_, hds_, hr_⟩ := HT4.out.row
      have HR_ := hid hr_
      have hz_ := Nat.le_trans h0 HT4.out.bel.size
      clear hr_
      refine wpList_app_t rfl _ _ HR_.out rfl rfl _ rfl 22 (by rw [ByteArray.size_append, ByteArray.size_append]; have e1 : (⟨#[40]⟩ : ByteArray).size = 1 := rfl; have e2 : (⟨#[41]⟩ : ByteArray).size = 1 := rfl; omega) (by rw [List.length_append]; omega) hz_ ?_
      intro v5_ w5_ HF_
      have HS3_ : Hid (SRow N 1 laL w5_ gb go gc) := hid (HS2_.out.below (by have := HG.out.n6; omega) (HF_.out.bel.mono hN))
      have HT5 : Hid (Tx n0 w bs (0 + 22) w5_ v5_) := hid (HT4.out.trans hds_ HF_.out.tx)
      clear HF_ HR_ hds_ hz_ HT4
      clear HS2_
      refine ⟨HS3_.out, ?_⟩
      simp only [QN]
      clear HS3_
      have HQ_ : Hid (Tx n0 w bs (exK 0) w5_ v5_) := hid (HT5.out.mono (by omega))
      clear HT5
      go_wp2
      go_ret
      exact ⟨_, rfl, HQ_⟩
    · have dq0 : ((q : Int) == 0) = false := by simp; omega
      go_wp2_with (at_builtin; refine stopHere ?_)
      have HD_ := hid (HT2.out.kd _ _ _ HD.out)
      refine (belowW HD_.out 32 (by decide) (by omega)).mono ?_
      rintro e w3_ ⟨q2, rfl, hq2, HU_⟩
      have HT3 : Hid (Tx n0 w bs (0) w3_ v) := hid (HT2.out.drawn h0 hg HD_.out HU_.out)
      clear HU_ HD_ HT2
      obtain ⟨m, em, hm⟩ : ∃ m : Nat, IntKind.u64.wrap (1 + (q2 : Int)) = (m : Int) ∧ m < 33 := ⟨1 + q2, by rw [IntKind.wrap_u64]; omega, by omega⟩
      go_wp2_with (at_builtin; refine stopHere ?_)
      obtain ⟨ds_, hds_, hr_⟩ := HT3.out.row
      have HR_ := hid hr_
      have hz_ := Nat.le_trans h0 HT3.out.bel.size
      clear hr_
      refine (appendNumberW 10 (by decide) 1 m (by omega) (by omega) HR_.out hz_ (by rw [List.length_append]; omega)).mono ?_
      rintro e w4_ ⟨v4_, rfl, HF_⟩
      have HT4 : Hid (Tx n0 w bs (0 + 2) w4_ v4_) := hid (HT3.out.trans hds_ HF_.out.tx)
      clear HF_ HR_ hds_ hz_ HT3
      have HQ_ : Hid (Tx n0 w bs (exK 0) w4_ v4_) := hid (HT4.out.mono (by omega))
      clear HT4
      go_wp2
      go_ret
      exact ⟨_, rfl, HQ_⟩
set_option maxRecDepth 100000 in
set_option maxHeartbeats 8000000 in
theorem exprS (hg : n0 ≤ g) (hN : N ≤ n0) {k : Nat} (hk : k ≤ 2) (ih : ExTC n0 N mg g ty co k) : ExTC n0 N mg g ty co (k + 1) := by
  intro w v bs hgl hd hr h0 hl
  have HT0 := hid (Tx.start hr)
  have HD := hid hd
  have HG := hid hgl
  have hK := exK_s k
  have hKg := exK_ge k
  have hKl := exK_le (k := k) (by omega)
  have HI := hid ih
  have ek : ((k + 1 : Nat) : Int) - 1 = (k : Int) := by omega
  have dk : decide (((k + 1 : Nat) : Int) ≤ 0) = false := decide_eq_false (by omega)
  have dk2 : ¬ (k : Int) + 1 ≤ 0 := by omega
  obtain ⟨s_, hb_, hs_, hty, hco⟩ := HD.out
  have dc : ∀ (wz : World), Dw wz g ty co → wz.cell? ⟨g, 2, none⟩ = some (.int .u64 (co : Int)) := fun wz ⟨_, hb, _⟩ => hb.cell 2
  clear hr hd hgl hb_ hs_ ih
  go_enter Tryz.func70, Tryz.ntmps70
  go_wp2_with (at_builtin; refine stopHere ?_)
  have HD_ := hid (HT0.out.kd _ _ _ HD.out)
  refine (belowW HD_.out 20 (by decide) (by omega)).mono ?_
  rintro e w1_ ⟨r, rfl, hr, HU_⟩
  have HT1 : Hid (Tx n0 w bs (0) w1_ v) := hid (HT0.out.drawn h0 hg HD_.out HU_.out)
  clear HU_ HD_ HT0
  obtain rfl | rfl | rfl | rfl | rfl | rfl | rfl | rfl | rfl | rfl | rfl | rfl | rfl | rfl | rfl | rfl | rfl | rfl | rfl | rfl : r = 0 ∨ r = 1 ∨ r = 2 ∨ r = 3 ∨ r = 4 ∨ r = 5 ∨ r = 6 ∨ r = 7 ∨ r = 8 ∨ r = 9 ∨ r = 10 ∨ r = 11 ∨ r = 12 ∨ r = 13 ∨ r = 14 ∨ r = 15 ∨ r = 16 ∨ r = 17 ∨ r = 18 ∨ r = 19 := by omega
  · go_wp2_with (at_builtin; refine stopHere ?_)
    have HD_ := hid (HT1.out.kd _ _ _ HD.out)
    refine (belowW HD_.out 10 (by decide) (by omega)).mono ?_
    rintro e w2_ ⟨q, rfl, hq, HU_⟩
    have HT2 : Hid (Tx n0 w bs (0) w2_ v) := hid (HT1.out.drawn h0 hg HD_.out HU_.out)
    clear HU_ HD_ HT1
    go_wp2_with (at_builtin; refine stopHere ?_)
    obtain ⟨ds_, hds_, hr_⟩ := HT2.out.row
    have HR_ := hid hr_
    have hz_ := Nat.le_trans h0 HT2.out.bel.size
    clear hr_
    refine (appendNumberW 10 (by decide) 0 q (by omega) (by omega) HR_.out hz_ (by rw [List.length_append]; omega)).mono ?_
    rintro e w3_ ⟨v3_, rfl, HF_⟩
    have HT3 : Hid (Tx n0 w bs (0 + 1) w3_ v3_) := hid (HT2.out.trans hds_ HF_.out.tx)
    clear HF_ HR_ hds_ hz_ HT2
    have HQ_ : Hid (Tx n0 w bs (exK (k + 1)) w3_ v3_) := hid (HT3.out.mono (by omega))
    clear HT3
    go_wp2
    go_ret
    exact ⟨_, rfl, HQ_⟩
  · go_wp2_with (at_builtin; refine stopHere ?_)
    have HD_ := hid (HT1.out.kd _ _ _ HD.out)
    refine (belowW HD_.out 10 (by decide) (by omega)).mono ?_
    rintro e w2_ ⟨q, rfl, hq, HU_⟩
    have HT2 : Hid (Tx n0 w bs (0) w2_ v) := hid (HT1.out.drawn h0 hg HD_.out HU_.out)
    clear HU_ HD_ HT1
    go_wp2_with (at_builtin; refine stopHere ?_)
    obtain ⟨ds_, hds_, hr_⟩ := HT2.out.row
    have HR_ := hid hr_
    have hz_ := Nat.le_trans h0 HT2.out.bel.size
    clear hr_
    refine (appendNumberW 10 (by decide) 0 q (by omega) (by omega) HR_.out hz_ (by rw [List.length_append]; omega)).mono ?_
    rintro e w3_ ⟨v3_, rfl, HF_⟩
    have HT3 : Hid (Tx n0 w bs (0 + 1) w3_ v3_) := hid (HT2.out.trans hds_ HF_.out.tx)
    clear HF_ HR_ hds_ hz_ HT2
    have HQ_ : Hid (Tx n0 w bs (exK (k + 1)) w3_ v3_) := hid (HT3.out.mono (by omega))
    clear HT3
    go_wp2
    go_ret
    exact ⟨_, rfl, HQ_⟩
  · go_wp2_with (at_builtin; refine stopHere ?_)
    have HD_ := hid (HT1.out.kd _ _ _ HD.out)
    refine (belowW HD_.out 10 (by decide) (by omega)).mono ?_
    rintro e w2_ ⟨q, rfl, hq, HU_⟩
    have HT2 : Hid (Tx n0 w bs (0) w2_ v) := hid (HT1.out.drawn h0 hg HD_.out HU_.out)
    clear HU_ HD_ HT1
    go_wp2_with (at_builtin; refine stopHere ?_)
    obtain ⟨ds_, hds_, hr_⟩ := HT2.out.row
    have HR_ := hid hr_
    have hz_ := Nat.le_trans h0 HT2.out.bel.size
    clear hr_
    refine (appendNumberW 10 (by decide) 0 q (by omega) (by omega) HR_.out hz_ (by rw [List.length_append]; omega)).mono ?_
    rintro e w3_ ⟨v3_, rfl, HF_⟩
    have HT3 : Hid (Tx n0 w bs (0 + 1) w3_ v3_) := hid (HT2.out.trans hds_ HF_.out.tx)
    clear HF_ HR_ hds_ hz_ HT2
    have HQ_ : Hid (Tx n0 w bs (exK (k + 1)) w3_ v3_) := hid (HT3.out.mono (by omega))
    clear HT3
    go_wp2
    go_ret
    exact ⟨_, rfl, HQ_⟩
  · go_wp2_with (at_builtin; refine stopHere ?_)
    have HD_ := hid (HT1.out.kd _ _ _ HD.out)
    refine (belowW HD_.out 10 (by decide) (by omega)).mono ?_
    rintro e w2_ ⟨q, rfl, hq, HU_⟩
    have HT2 : Hid (Tx n0 w bs (0) w2_ v) := hid (HT1.out.drawn h0 hg HD_.out HU_.out)
    clear HU_ HD_ HT1
    go_wp2_with (at_builtin; refine stopHere ?_)
    obtain ⟨ds_, hds_, hr_⟩ := HT2.out.row
    have HR_ := hid hr_
    have hz_ := Nat.le_trans h0 HT2.out.bel.size
    clear hr_
    refine (appendNumberW 10 (by decide) 0 q (by omega) (by omega) HR_.out hz_ (by rw [List.length_append]; omega)).mono ?_
    rintro e w3_ ⟨v3_, rfl, HF_⟩
    have HT3 : Hid (Tx n0 w bs (0 + 1) w3_ v3_) := hid (HT2.out.trans hds_ HF_.out.tx)
    clear HF_ HR_ hds_ hz_ HT2
    have HQ_ : Hid (Tx n0 w bs (exK (k + 1)) w3_ v3_) := hid (HT3.out.mono (by omega))
    clear HT3
    go_wp2
    go_ret
    exact ⟨_, rfl, HQ_⟩
  · go_wp2_with (at_builtin; refine stopHere ?_)
    have HD_ := hid (HT1.out.kd _ _ _ HD.out)
    refine (belowW HD_.out 10 (by decide) (by omega)).mono ?_
    rintro e w2_ ⟨q, rfl, hq, HU_⟩
    have HT2 : Hid (Tx n0 w bs (0) w2_ v) := hid (HT1.out.drawn h0 hg HD_.out HU_.out)
    clear HU_ HD_ HT1
    go_wp2_with (at_builtin; refine stopHere ?_)
    obtain ⟨ds_, hds_, hr_⟩ := HT2.out.row
    have HR_ := hid hr_
    have hz_ := Nat.le_trans h0 HT2.out.bel.size
    clear hr_
    refine (appendNumberW 10 (by decide) 0 q (by omega) (by omega) HR_.out hz_ (by rw [List.length_append]; omega)).mono ?_
    rintro e w3_ ⟨v3_, rfl, HF_⟩
    have HT3 : Hid (Tx n0 w bs (0 + 1) w3_ v3_) := hid (HT2.out.trans hds_ HF_.out.tx)
    clear HF_ HR_ hds_ hz_ HT2
    have HQ_ : Hid (Tx n0 w bs (exK (k + 1)) w3_ v3_) := hid (HT3.out.mono (by omega))
    clear HT3
    go_wp2
    go_ret
    exact ⟨_, rfl, HQ_⟩
  · go_wp2_with (at_builtin; refine stopHere ?_)
    have HD_ := hid (HT1.out.kd _ _ _ HD.out)
    refine (belowW HD_.out 70 (by decide) (by omega)).mono ?_
    rintro e w2_ ⟨q, rfl, hq, HU_⟩
    have HT2 : Hid (Tx n0 w bs (0) w2_ v) := hid (HT1.out.drawn h0 hg HD_.out HU_.out)
    clear HU_ HD_ HT1
    go_wp2_with (at_builtin; refine stopHere ?_)
    obtain ⟨ds_, hds_, hr_⟩ := HT2.out.row
    have HR_ := hid hr_
    have hz_ := Nat.le_trans h0 HT2.out.bel.size
    clear hr_
    refine (appendNumberW 10 (by decide) 1 q (by omega) (by omega) HR_.out hz_ (by rw [List.length_append]; omega)).mono ?_
    rintro e w3_ ⟨v3_, rfl, HF_⟩
    have HT3 : Hid (Tx n0 w bs (0 + 2) w3_ v3_) := hid (HT2.out.trans hds_ HF_.out.tx)
    clear HF_ HR_ hds_ hz_ HT2
    have HQ_ : Hid (Tx n0 w bs (exK (k + 1)) w3_ v3_) := hid (HT3.out.mono (by omega))
    clear HT3
    go_wp2
    go_ret
    exact ⟨_, rfl, HQ_⟩
  · have c2_ := dc _ (HT1.out.kd _ _ _ HD.out)
    by_cases hc0 : co = 0
    · subst hc0
      go_wp2_with (at_builtin; refine stopHere ?_)
      have HD_ := hid (HT1.out.kd _ _ _ HD.out)
      refine (belowW HD_.out 4 (by decide) (by omega)).mono ?_
      rintro e w2_ ⟨q, rfl, hq, HU_⟩
      have HT2 : Hid (Tx n0 w bs (0) w2_ v) := hid (HT1.out.drawn h0 hg HD_.out HU_.out)
      clear HU_ HD_ HT1
      obtain ⟨m, em, hm⟩ : ∃ m : Nat, IntKind.u64.wrap (1 + (q : Int)) = (m : Int) ∧ m < 5 := ⟨1 + q, by rw [IntKind.wrap_u64]; omega, by omega⟩
      go_wp2_with (at_builtin; refine stopHere ?_)
      obtain ⟨ds_, hds_, hr_⟩ := HT2.out.row
      have HR_ := hid hr_
      have hz_ := Nat.le_trans h0 HT2.out.bel.size
      clear hr_
      refine (appendNumberW 10 (by decide) 0 m (by omega) (by omega) HR_.out hz_ (by rw [List.length_append]; omega)).mono ?_
      rintro e w3_ ⟨v3_, rfl, HF_⟩
      have HT3 : Hid (Tx n0 w bs (0 + 1) w3_ v3_) := hid (HT2.out.trans hds_ HF_.out.tx)
      clear HF_ HR_ hds_ hz_ HT2
      have HQ_ : Hid (Tx n0 w bs (exK (k + 1)) w3_ v3_) := hid (HT3.out.mono (by omega))
      clear HT3
      go_wp2
      go_ret
      exact ⟨_, rfl, HQ_⟩
    · have dq_ : decide ((0 : Int) < (co : Int)) = true := decide_eq_true (by omega)
      have dq2_ : 0 < co := by omega
      go_wp2_with (at_builtin; refine stopHere ?_)
      have HD_ := hid (HT1.out.kd _ _ _ HD.out)
      refine (belowW HD_.out co (by omega) (by omega)).mono ?_
      rintro e w2_ ⟨q, rfl, hq, HU_⟩
      have HT2 : Hid (Tx n0 w bs (0) w2_ v) := hid (HT1.out.drawn h0 hg HD_.out HU_.out)
      clear HU_ HD_ HT1
      go_wp2_with (at_builtin; refine stopHere ?_)
      refine (constNameW q (by omega) _).mono ?_
      rintro e w3_ ⟨s, rfl, hs, HB_⟩
      have HT3 : Hid (Tx n0 w bs (0) w3_ v) := hid (HT2.out.below h0 HB_.out)
      clear HB_ HT2
      go_wp2_with (at_builtin; refine stopHere ?_)
      intro _
      obtain ⟨ds_, hds_, hr_⟩ := HT3.out.row
      have HR_ := hid hr_
      have hz_ := Nat.le_trans h0 HT3.out.bel.size
      clear hr_
      refine wpList_app_t rfl _ _ HR_.out rfl rfl _ rfl 2 (hs) (by rw [List.length_append]; omega) hz_ ?_
      intro v4_ w4_ HF_
      have HT4 : Hid (Tx n0 w bs (0 + 2) w4_ v4_) := hid (HT3.out.trans hds_ HF_.out.tx)
      clear HF_ HR_ hds_ hz_ HT3
      have HQ_ : Hid (Tx n0 w bs (exK (k + 1)) w4_ v4_) := hid (HT4.out.mono (by omega))
      clear HT4
      go_wp2
      go_ret
      exact ⟨_, rfl, HQ_⟩
  · have c2_ := dc _ (HT1.out.kd _ _ _ HD.out)
    by_cases hc0 : co = 0
    · subst hc0
      go_wp2_with (at_builtin; refine stopHere ?_)
      have HD_ := hid (HT1.out.kd _ _ _ HD.out)
      refine (belowW HD_.out 4 (by decide) (by omega)).mono ?_
      rintro e w2_ ⟨q, rfl, hq, HU_⟩
      have HT2 : Hid (Tx n0 w bs (0) w2_ v) := hid (HT1.out.drawn h0 hg HD_.out HU_.out)
      clear HU_ HD_ HT1
      obtain ⟨m, em, hm⟩ : ∃ m : Nat, IntKind.u64.wrap (1 + (q : Int)) = (m : Int) ∧ m < 5 := ⟨1 + q, by rw [IntKind.wrap_u64]; omega, by omega⟩
      go_wp2_with (at_builtin; refine stopHere ?_)
      obtain ⟨ds_, hds_, hr_⟩ := HT2.out.row
      have HR_ := hid hr_
      have hz_ := Nat.le_trans h0 HT2.out.bel.size
      clear hr_
      refine (appendNumberW 10 (by decide) 0 m (by omega) (by omega) HR_.out hz_ (by rw [List.length_append]; omega)).mono ?_
      rintro e w3_ ⟨v3_, rfl, HF_⟩
      have HT3 : Hid (Tx n0 w bs (0 + 1) w3_ v3_) := hid (HT2.out.trans hds_ HF_.out.tx)
      clear HF_ HR_ hds_ hz_ HT2
      have HQ_ : Hid (Tx n0 w bs (exK (k + 1)) w3_ v3_) := hid (HT3.out.mono (by omega))
      clear HT3
      go_wp2
      go_ret
      exact ⟨_, rfl, HQ_⟩
    · have dq_ : decide ((0 : Int) < (co : Int)) = true := decide_eq_true (by omega)
      have dq2_ : 0 < co := by omega
      go_wp2_with (at_builtin; refine stopHere ?_)
      have HD_ := hid (HT1.out.kd _ _ _ HD.out)
      refine (belowW HD_.out co (by omega) (by omega)).mono ?_
      rintro e w2_ ⟨q, rfl, hq, HU_⟩
      have HT2 : Hid (Tx n0 w bs (0) w2_ v) := hid (HT1.out.drawn h0 hg HD_.out HU_.out)
      clear HU_ HD_ HT1
      go_wp2_with (at_builtin; refine stopHere ?_)
      refine (constNameW q (by omega) _).mono ?_
      rintro e w3_ ⟨s, rfl, hs, HB_⟩
      have HT3 : Hid (Tx n0 w bs (0) w3_ v) := hid (HT2.out.below h0 HB_.out)
      clear HB_ HT2
      go_wp2_with (at_builtin; refine stopHere ?_)
      intro _
      obtain ⟨ds_, hds_, hr_⟩ := HT3.out.row
      have HR_ := hid hr_
      have hz_ := Nat.le_trans h0 HT3.out.bel.size
      clear hr_
      refine wpList_app_t rfl _ _ HR_.out rfl rfl _ rfl 2 (hs) (by rw [List.length_append]; omega) hz_ ?_
      intro v4_ w4_ HF_
      have HT4 : Hid (Tx n0 w bs (0 + 2) w4_ v4_) := hid (HT3.out.trans hds_ HF_.out.tx)
      clear HF_ HR_ hds_ hz_ HT3
      have HQ_ : Hid (Tx n0 w bs (exK (k + 1)) w4_ v4_) := hid (HT4.out.mono (by omega))
      clear HT4
      go_wp2
      go_ret
      exact ⟨_, rfl, HQ_⟩
  · obtain ⟨n1, hn1⟩ : ∃ n, w1_.heap.size = n := ⟨_, rfl⟩
    have hcc := Go.Lib.run_convert_bytes_const (P := Tryz.prog) w1_ 28 5 #[.int .u8 48, .int .u8 120] 2 2 Tryz.underlying28 Tryz.underlying5
    have HO_ : Hid (Fm n1 (w1_.alloc (.cells #[.int .u8 48, .int .u8 120] 5 (2, 3))) n1 [48, 120]) := hid ⟨⟨_, by rw [← hn1]; exact heap_alloc_new w1_ _⟩, Nat.le_refl _⟩
    rw [hn1] at hcc
    simp only [List.size_toArray, List.length_cons, List.length_nil, Nat.zero_add, Nat.reduceAdd] at hcc
    have hv_ : ∀ k, Value.ownBlock v = some k → k < n1 := fun k hk => by obtain ⟨_, _, h⟩ := HT1.out.row; have := h.lt k hk; omega
    have hs1_ : w.heap.size ≤ n1 := by have := HT1.out.bel.size; omega
    have hgn_ : g < n1 := by obtain ⟨_, hb, _⟩ := HT1.out.kd _ _ _ HD.out; have := hb.lt; omega
    clear hco
    go_wp2_with (at_builtin; refine stopHere ?_)
    generalize hwq_ : World.alloc _ _ = w2_ at HO_ ⊢
    have HT2 : Hid (Tx n0 w bs (0) w2_ v) := hid (by rw [← hwq_]; exact HT1.out.below h0 (nbel _ _))
    clear hwq_ hn1 hcc HT1
    have HD_ := hid (HT2.out.kd _ _ _ HD.out)
    refine (belowW HD_.out 300 (by decide) (by omega)).mono ?_
    rintro e w3_ ⟨q, rfl, hq, HU_⟩
    have HT3 : Hid (Tx n0 w bs (0) w3_ v) := hid (HT2.out.drawn h0 hg HD_.out HU_.out)
    have HO3_ : Hid (Fm n1 w3_ n1 [48, 120]) := hid (HO_.out.upd HU_.out.1 hgn_)
    have hz3_ : n1 ≤ w3_.heap.size := by have := HO3_.out.lt; omega
    clear HU_ HD_ HO_ HT2
    go_wp2_with (at_builtin; refine stopHere ?_)
    refine (appendNumberF 16 (by decide) 2 2 q rfl (by omega) (by omega) HO3_.out hz3_ (by decide)).mono ?_
    rintro e w4_ ⟨v4, rfl, HA_⟩
    have HT4 : Hid (Tx n0 w bs (0) w4_ v) := hid (HT3.out.below2 hs1_ hv_ (Nat.le_trans h0 hs1_) HA_.out.1)
    obtain ⟨_, es_, hes_, hre_⟩ := HA_.out
    obtain ⟨a4, q4, rfl⟩ := hre_.shape
    have hcv := hre_.str
    have hsz : (⟨([48, 120] ++ es_).toArray⟩ : ByteArray).size ≤ 5 := by show ([48, 120] ++ es_).toArray.size ≤ 5; simp; omega
    generalize (⟨([48, 120] ++ es_).toArray⟩ : ByteArray) = ss at hcv hsz
    generalize ([48, 120] ++ es_).length = m2 at hcv ⊢
    clear hre_ HA_ HO3_ HT3
    go_wp2_with (at_builtin; refine stopHere ?_)
    intro _
    obtain ⟨ds_, hds_, hr_⟩ := HT4.out.row
    have HR_ := hid hr_
    have hz_ := Nat.le_trans h0 HT4.out.bel.size
    clear hr_
    refine wpList_app_t rfl _ _ HR_.out rfl rfl _ rfl 5 (hsz) (by rw [List.length_append]; omega) hz_ ?_
    intro v5_ w5_ HF_
    have HT5 : Hid (Tx n0 w bs (0 + 5) w5_ v5_) := hid (HT4.out.trans hds_ HF_.out.tx)
    clear HF_ HR_ hds_ hz_ HT4
    have HQ_ : Hid (Tx n0 w bs (exK (k + 1)) w5_ v5_) := hid (HT5.out.mono (by omega))
    clear HT5
    go_wp2
    go_ret
    exact ⟨_, rfl, HQ_⟩
  · go_wp2_with (at_builtin; refine stopHere ?_)
    have HD_ := hid (HT1.out.kd _ _ _ HD.out)
    refine (belowW HD_.out 4 (by decide) (by omega)).mono ?_
    rintro e w2_ ⟨q, rfl, hq, HU_⟩
    have HT2 : Hid (Tx n0 w bs (0) w2_ v) := hid (HT1.out.drawn h0 hg HD_.out HU_.out)
    clear HU_ HD_ HT1
    by_cases hq0 : q = 0
    · subst hq0
      obtain ⟨gb, go, gc, hS0⟩ := (HG.out.below (HT2.out.bel.mono hN)).la
      go_upto_region 22 with fail
      have HS_ : Hid (SRow N 1 laL (w2_.drew) gb go gc) := hid ⟨hS0.lt, hS0.c, hS0.row⟩
      have HT3 : Hid (Tx n0 w bs (0) w2_.drew v) := hid (HT2.out.below h0 (Drew.below ⟨1, rfl⟩ _))
      clear hS0 HT2
      refine wp_region_hlh (fun wz => SRow N 1 laL wz gb go gc) 12 [0, 1, 2, 3, 4, 5] [6] [7, 8, 9, 10] [11] rfl (by kernel_rfl) (by kernel_rfl) (fun d _ _ _ _ h => by cases d <;> exact h) HS_.out ?_
      apply Exists.intro
      refine ⟨?_, ?_⟩
      · intro W hW
        have q1 : ∀ z, (W z).cell? ⟨1, 0, none⟩ = some (.slice (some ⟨gb, go, none⟩) 32 gc) := fun z => (hW z).c
        clear hW
        simp only [List.take, opsAt, List.drop, List.cons_append, List.nil_append]
        repeat (go_big_quiet_step (fail))
        exact rfl
      simp only [List.take, List.drop, opsAt, List.cons_append, List.nil_append, wpHvK]
      generalize w2_.drew = w3_ at HS_ HT3 ⊢
      have HD_ := hid (HT3.out.kd _ _ _ HD.out)
      go_wp2_with fail
      refine (belowW HD_.out 32 (by decide) (by omega)).mono ?_
      rintro e w4_ ⟨r2, rfl, hr2, HU_⟩
      have HT4 : Hid (Tx n0 w bs (0) w4_ v) := hid (HT3.out.drawn h0 hg HD_.out HU_.out)
      have HS2_ : Hid (SRow N 1 laL w4_ gb go gc) := hid (HS_.out.below (by have := HG.out.n6; omega) (HU_.out.1.below (Nat.le_trans hN hg) (Nat.le_trans (Nat.le_trans hN h0) HT3.out.bel.size)))
      clear HU_ HD_ HS_ HT3
      obtain ⟨s, hs, hsz⟩ : ∃ s, laL[r2]? = some s ∧ s.size ≤ 20 := ⟨_, List.getElem?_eq_getElem (show r2 < laL.length from hr2), laL_sz _ (List.getElem_mem _)⟩
      have i1 : (r2 : Int) < 32 := by omega
      go_wp2_with fail
      refine ⟨HS2_.out, ?_⟩
      apply Exists.intro
      refine ⟨?_, ?_⟩
      · intro W hW
        have q2 : ∀ z, (W z).cell? ⟨gb, go + r2, none⟩ = some (.string s) := fun z => (hW z).row r2 s hs
        clear hW
        (try simp only [List.take, opsAt, List.drop, List.cons_append, List.nil_append])
        repeat (go_big_quiet_step (fail))
        exact rfl
      (try simp only [wpHv, opsAt, List.take, List.drop, List.cons_append, List.nil_append])
      obtain ⟨ds_, hds_, hr_⟩ := HT4.out.row
      have HR_ := hid hr_
      have hz_ := Nat.le_trans h0 HT4.out.bel.size
      clear hr_
      refine wpList_app_t rfl _ _ HR_.out rfl rfl _ rfl 22 (by rw [ByteArray.size_append, ByteArray.size_append]; have e1 : (⟨#[40]⟩ : ByteArray).size = 1 := rfl; have e2 : (⟨#[41]⟩ : ByteArray).size = 1 := rfl; omega) (by rw [List.length_append]; omega) hz_ ?_
      intro v5_ w5_ HF_
      have HS3_ : Hid (SRow N 1 laL w5_ gb go gc) := hid (HS2_.out.below (by have := HG.out.n6; omega) (HF_.out.bel.mono hN))
      have HT5 : Hid (Tx n0 w bs (0 + 22) w5_ v5_) := hid (HT4.out.trans hds_ HF_.out.tx)
      clear HF_ HR_ hds_ hz_ HT4
      clear HS2_
      refine ⟨HS3_.out, ?_⟩
      simp only [QN]
      clear HS3_
      have HQ_ : Hid (Tx n0 w bs (exK (k + 1)) w5_ v5_) := hid (HT5.out.mono (by omega))
      clear HT5
      go_wp2
      go_ret
      exact ⟨_, rfl, HQ_⟩
    · have dq0 : ((q : Int) == 0) = false := by simp; omega
      go_wp2_with (at_builtin; refine stopHere ?_)
      have HD_ := hid (HT2.out.kd _ _ _ HD.out)
      refine (belowW HD_.out 32 (by decide) (by omega)).mono ?_
      rintro e w3_ ⟨q2, rfl, hq2, HU_⟩
      have HT3 : Hid (Tx n0 w bs (0) w3_ v) := hid (HT2.out.drawn h0 hg HD_.out HU_.out)
      clear HU_ HD_ HT2
      obtain ⟨m, em, hm⟩ : ∃ m : Nat, IntKind.u64.wrap (1 + (q2 : Int)) = (m : Int) ∧ m < 33 := ⟨1 + q2, by rw [IntKind.wrap_u64]; omega, by omega⟩
      go_wp2_with (at_builtin; refine stopHere ?_)
      obtain ⟨ds_, hds_, hr_⟩ := HT3.out.row
      have HR_ := hid hr_
      have hz_ := Nat.le_trans h0 HT3.out.bel.size
      clear hr_
      refine (appendNumberW 10 (by decide) 1 m (by omega) (by omega) HR_.out hz_ (by rw [List.length_append]; omega)).mono ?_
      rintro e w4_ ⟨v4_, rfl, HF_⟩
      have HT4 : Hid (Tx n0 w bs (0 + 2) w4_ v4_) := hid (HT3.out.trans hds_ HF_.out.tx)
      clear HF_ HR_ hds_ hz_ HT3
      have HQ_ : Hid (Tx n0 w bs (exK (k + 1)) w4_ v4_) := hid (HT4.out.mono (by omega))
      clear HT4
      go_wp2
      go_ret
      exact ⟨_, rfl, HQ_⟩
  · go_wp2_with (at_builtin; refine stopHere ?_)
    generalize hwq_ : World.alloc _ _ = w2_
    have HT2 : Hid (Tx n0 w bs (0) w2_ v) := hid (by rw [← hwq_]; exact HT1.out.below h0 (nbel _ _))
    clear hwq_ HT1
    go_wp2_with (at_builtin; refine stopHere ?_)
    obtain ⟨ds_, hds_, hr_⟩ := HT2.out.row
    have HR_ := hid hr_
    have hz_ := Nat.le_trans h0 HT2.out.bel.size
    clear hr_
    refine (HI.out _ _ _ (HG.out.below (HT2.out.bel.mono hN)) (HT2.out.kd _ _ _ HD.out) HR_.out hz_ (by rw [List.length_append]; omega)).mono ?_
    rintro e w3_ ⟨v3_, rfl, HF_⟩
    have HT3 : Hid (Tx n0 w bs (0 + exK k) w3_ v3_) := hid (HT2.out.trans hds_ HF_.out)
    clear HF_ HR_ hds_ hz_ HT2
    go_wp2_with (at_builtin; refine stopHere ?_)
    obtain ⟨ds_, hds_, hr_⟩ := HT3.out.row
    have HR_ := hid hr_
    have hz_ := Nat.le_trans h0 HT3.out.bel.size
    clear hr_
    refine (gapW (HT3.out.kd _ _ _ HD.out) hg HR_.out hz_ (by rw [List.length_append]; omega)).mono ?_
    rintro e w4_ ⟨v4_, rfl, HF_⟩
    have HT4 : Hid (Tx n0 w bs (0 + exK k + 24) w4_ v4_) := hid (HT3.out.trans hds_ HF_.out)
    clear HF_ HR_ hds_ hz_ HT3
    go_wp2_with (at_builtin; refine stopHere ?_)
    intro _
    obtain ⟨ds_, hds_, hr_⟩ := HT4.out.row
    have HR_ := hid hr_
    have hz_ := Nat.le_trans h0 HT4.out.bel.size
    clear hr_
    refine wpList_app_t rfl _ _ HR_.out rfl rfl _ rfl 2 (by decide) (by rw [List.length_append]; omega) hz_ ?_
    intro v5_ w5_ HF_
    have HT5 : Hid (Tx n0 w bs (0 + exK k + 24 + 2) w5_ v5_) := hid (HT4.out.trans hds_ HF_.out.tx)
    clear HF_ HR_ hds_ hz_ HT4
    go_wp2_with (at_builtin; refine stopHere ?_)
    obtain ⟨ds_, hds_, hr_⟩ := HT5.out.row
    have HR_ := hid hr_
    have hz_ := Nat.le_trans h0 HT5.out.bel.size
    clear hr_
    refine (gapW (HT5.out.kd _ _ _ HD.out) hg HR_.out hz_ (by rw [List.length_append]; omega)).mono ?_
    rintro e w6_ ⟨v6_, rfl, HF_⟩
    have HT6 : Hid (Tx n0 w bs (0 + exK k + 24 + 2 + 24) w6_ v6_) := hid (HT5.out.trans hds_ HF_.out)
    clear HF_ HR_ hds_ hz_ HT5
    go_wp2_with (at_builtin; refine stopHere ?_)
    obtain ⟨ds_, hds_, hr_⟩ := HT6.out.row
    have HR_ := hid hr_
    have hz_ := Nat.le_trans h0 HT6.out.bel.size
    clear hr_
    refine (HI.out _ _ _ (HG.out.below (HT6.out.bel.mono hN)) (HT6.out.kd _ _ _ HD.out) HR_.out hz_ (by rw [List.length_append]; omega)).mono ?_
    rintro e w7_ ⟨v7_, rfl, HF_⟩
    have HT7 : Hid (Tx n0 w bs (0 + exK k + 24 + 2 + 24 + exK k) w7_ v7_) := hid (HT6.out.trans hds_ HF_.out)
    clear HF_ HR_ hds_ hz_ HT6
    have HQ_ : Hid (Tx n0 w bs (exK (k + 1)) w7_ v7_) := hid (HT7.out.mono (by omega))
    clear HT7
    go_wp2
    go_ret
    exact ⟨_, rfl, HQ_⟩
  · go_wp2_with (at_builtin; refine stopHere ?_)
    generalize hwq_ : World.alloc _ _ = w2_
    have HT2 : Hid (Tx n0 w bs (0) w2_ v) := hid (by rw [← hwq_]; exact HT1.out.below h0 (nbel _ _))
    clear hwq_ HT1
    go_wp2_with (at_builtin; refine stopHere ?_)
    obtain ⟨ds_, hds_, hr_⟩ := HT2.out.row
    have HR_ := hid hr_
    have hz_ := Nat.le_trans h0 HT2.out.bel.size
    clear hr_
    refine (HI.out _ _ _ (HG.out.below (HT2.out.bel.mono hN)) (HT2.out.kd _ _ _ HD.out) HR_.out hz_ (by rw [List.length_append]; omega)).mono ?_
    rintro e w3_ ⟨v3_, rfl, HF_⟩
    have HT3 : Hid (Tx n0 w bs (0 + exK k) w3_ v3_) := hid (HT2.out.trans hds_ HF_.out)
    clear HF_ HR_ hds_ hz_ HT2
    go_wp2_with (at_builtin; refine stopHere ?_)
    obtain ⟨ds_, hds_, hr_⟩ := HT3.out.row
    have HR_ := hid hr_
    have hz_ := Nat.le_trans h0 HT3.out.bel.size
    clear hr_
    refine (gapW (HT3.out.kd _ _ _ HD.out) hg HR_.out hz_ (by rw [List.length_append]; omega)).mono ?_
    rintro e w4_ ⟨v4_, rfl, HF_⟩
    have HT4 : Hid (Tx n0 w bs (0 + exK k + 24) w4_ v4_) := hid (HT3.out.trans hds_ HF_.out)
    clear HF_ HR_ hds_ hz_ HT3
    go_wp2_with (at_builtin; refine stopHere ?_)
    intro _
    obtain ⟨ds_, hds_, hr_⟩ := HT4.out.row
    have HR_ := hid hr_
    have hz_ := Nat.le_trans h0 HT4.out.bel.size
    clear hr_
    refine wpList_app_t rfl _ _ HR_.out rfl rfl _ rfl 2 (by decide) (by rw [List.length_append]; omega) hz_ ?_
    intro v5_ w5_ HF_
    have HT5 : Hid (Tx n0 w bs (0 + exK k + 24 + 2) w5_ v5_) := hid (HT4.out.trans hds_ HF_.out.tx)
    clear HF_ HR_ hds_ hz_ HT4
    go_wp2_with (at_builtin; refine stopHere ?_)
    obtain ⟨ds_, hds_, hr_⟩ := HT5.out.row
    have HR_ := hid hr_
    have hz_ := Nat.le_trans h0 HT5.out.bel.size
    clear hr_
    refine (gapW (HT5.out.kd _ _ _ HD.out) hg HR_.out hz_ (by rw [List.length_append]; omega)).mono ?_
    rintro e w6_ ⟨v6_, rfl, HF_⟩
    have HT6 : Hid (Tx n0 w bs (0 + exK k + 24 + 2 + 24) w6_ v6_) := hid (HT5.out.trans hds_ HF_.out)
    clear HF_ HR_ hds_ hz_ HT5
    go_wp2_with (at_builtin; refine stopHere ?_)
    obtain ⟨ds_, hds_, hr_⟩ := HT6.out.row
    have HR_ := hid hr_
    have hz_ := Nat.le_trans h0 HT6.out.bel.size
    clear hr_
    refine (HI.out _ _ _ (HG.out.below (HT6.out.bel.mono hN)) (HT6.out.kd _ _ _ HD.out) HR_.out hz_ (by rw [List.length_append]; omega)).mono ?_
    rintro e w7_ ⟨v7_, rfl, HF_⟩
    have HT7 : Hid (Tx n0 w bs (0 + exK k + 24 + 2 + 24 + exK k) w7_ v7_) := hid (HT6.out.trans hds_ HF_.out)
    clear HF_ HR_ hds_ hz_ HT6
    have HQ_ : Hid (Tx n0 w bs (exK (k + 1)) w7_ v7_) := hid (HT7.out.mono (by omega))
    clear HT7
    go_wp2
    go_ret
    exact ⟨_, rfl, HQ_⟩
  · go_wp2_with (at_builtin; refine stopHere ?_)
    generalize hwq_ : World.alloc _ _ = w2_
    have HT2 : Hid (Tx n0 w bs (0) w2_ v) := hid (by rw [← hwq_]; exact HT1.out.below h0 (nbel _ _))
    clear hwq_ HT1
    go_wp2_with (at_builtin; refine stopHere ?_)
    obtain ⟨ds_, hds_, hr_⟩ := HT2.out.row
    have HR_ := hid hr_
    have hz_ := Nat.le_trans h0 HT2.out.bel.size
    clear hr_
    refine (HI.out _ _ _ (HG.out.below (HT2.out.bel.mono hN)) (HT2.out.kd _ _ _ HD.out) HR_.out hz_ (by rw [List.length_append]; omega)).mono ?_
    rintro e w3_ ⟨v3_, rfl, HF_⟩
    have HT3 : Hid (Tx n0 w bs (0 + exK k) w3_ v3_) := hid (HT2.out.trans hds_ HF_.out)
    clear HF_ HR_ hds_ hz_ HT2
    go_wp2_with (at_builtin; refine stopHere ?_)
    obtain ⟨ds_, hds_, hr_⟩ := HT3.out.row
    have HR_ := hid hr_
    have hz_ := Nat.le_trans h0 HT3.out.bel.size
    clear hr_
    refine (gapW (HT3.out.kd _ _ _ HD.out) hg HR_.out hz_ (by rw [List.length_append]; omega)).mono ?_
    rintro e w4_ ⟨v4_, rfl, HF_⟩
    have HT4 : Hid (Tx n0 w bs (0 + exK k + 24) w4_ v4_) := hid (HT3.out.trans hds_ HF_.out)
    clear HF_ HR_ hds_ hz_ HT3
    go_wp2_with (at_builtin; refine stopHere ?_)
    intro _
    obtain ⟨ds_, hds_, hr_⟩ := HT4.out.row
    have HR_ := hid hr_
    have hz_ := Nat.le_trans h0 HT4.out.bel.size
    clear hr_
    refine wpList_app_t rfl _ _ HR_.out rfl rfl _ rfl 2 (by decide) (by rw [List.length_append]; omega) hz_ ?_
    intro v5_ w5_ HF_
    have HT5 : Hid (Tx n0 w bs (0 + exK k + 24 + 2) w5_ v5_) := hid (HT4.out.trans hds_ HF_.out.tx)
    clear HF_ HR_ hds_ hz_ HT4
    go_wp2_with (at_builtin; refine stopHere ?_)
    obtain ⟨ds_, hds_, hr_⟩ := HT5.out.row
    have HR_ := hid hr_
    have hz_ := Nat.le_trans h0 HT5.out.bel.size
    clear hr_
    refine (gapW (HT5.out.kd _ _ _ HD.out) hg HR_.out hz_ (by rw [List.length_append]; omega)).mono ?_
    rintro e w6_ ⟨v6_, rfl, HF_⟩
    have HT6 : Hid (Tx n0 w bs (0 + exK k + 24 + 2 + 24) w6_ v6_) := hid (HT5.out.trans hds_ HF_.out)
    clear HF_ HR_ hds_ hz_ HT5
    go_wp2_with (at_builtin; refine stopHere ?_)
    obtain ⟨ds_, hds_, hr_⟩ := HT6.out.row
    have HR_ := hid hr_
    have hz_ := Nat.le_trans h0 HT6.out.bel.size
    clear hr_
    refine (HI.out _ _ _ (HG.out.below (HT6.out.bel.mono hN)) (HT6.out.kd _ _ _ HD.out) HR_.out hz_ (by rw [List.length_append]; omega)).mono ?_
    rintro e w7_ ⟨v7_, rfl, HF_⟩
    have HT7 : Hid (Tx n0 w bs (0 + exK k + 24 + 2 + 24 + exK k) w7_ v7_) := hid (HT6.out.trans hds_ HF_.out)
    clear HF_ HR_ hds_ hz_ HT6
    have HQ_ : Hid (Tx n0 w bs (exK (k + 1)) w7_ v7_) := hid (HT7.out.mono (by omega))
    clear HT7
    go_wp2
    go_ret
    exact ⟨_, rfl, HQ_⟩
  · go_wp2_with (at_builtin; refine stopHere ?_)
    generalize hwq_ : World.alloc _ _ = w2_
    have HT2 : Hid (Tx n0 w bs (0) w2_ v) := hid (by rw [← hwq_]; exact HT1.out.below h0 (nbel _ _))
    clear hwq_ HT1
    go_wp2_with (at_builtin; refine stopHere ?_)
    obtain ⟨ds_, hds_, hr_⟩ := HT2.out.row
    have HR_ := hid hr_
    have hz_ := Nat.le_trans h0 HT2.out.bel.size
    clear hr_
    refine (HI.out _ _ _ (HG.out.below (HT2.out.bel.mono hN)) (HT2.out.kd _ _ _ HD.out) HR_.out hz_ (by rw [List.length_append]; omega)).mono ?_
    rintro e w3_ ⟨v3_, rfl, HF_⟩
    have HT3 : Hid (Tx n0 w bs (0 + exK k) w3_ v3_) := hid (HT2.out.trans hds_ HF_.out)
    clear HF_ HR_ hds_ hz_ HT2
    go_wp2_with (at_builtin; refine stopHere ?_)
    obtain ⟨ds_, hds_, hr_⟩ := HT3.out.row
    have HR_ := hid hr_
    have hz_ := Nat.le_trans h0 HT3.out.bel.size
    clear hr_
    refine (gapW (HT3.out.kd _ _ _ HD.out) hg HR_.out hz_ (by rw [List.length_append]; omega)).mono ?_
    rintro e w4_ ⟨v4_, rfl, HF_⟩
    have HT4 : Hid (Tx n0 w bs (0 + exK k + 24) w4_ v4_) := hid (HT3.out.trans hds_ HF_.out)
    clear HF_ HR_ hds_ hz_ HT3
    go_wp2_with (at_builtin; refine stopHere ?_)
    intro _
    obtain ⟨ds_, hds_, hr_⟩ := HT4.out.row
    have HR_ := hid hr_
    have hz_ := Nat.le_trans h0 HT4.out.bel.size
    clear hr_
    refine wpList_app_t rfl _ _ HR_.out rfl rfl _ rfl 2 (by decide) (by rw [List.length_append]; omega) hz_ ?_
    intro v5_ w5_ HF_
    have HT5 : Hid (Tx n0 w bs (0 + exK k + 24 + 2) w5_ v5_) := hid (HT4.out.trans hds_ HF_.out.tx)
    clear HF_ HR_ hds_ hz_ HT4
    go_wp2_with (at_builtin; refine stopHere ?_)
    obtain ⟨ds_, hds_, hr_⟩ := HT5.out.row
    have HR_ := hid hr_
    have hz_ := Nat.le_trans h0 HT5.out.bel.size
    clear hr_
    refine (gapW (HT5.out.kd _ _ _ HD.out) hg HR_.out hz_ (by rw [List.length_append]; omega)).mono ?_
    rintro e w6_ ⟨v6_, rfl, HF_⟩
    have HT6 : Hid (Tx n0 w bs (0 + exK k + 24 + 2 + 24) w6_ v6_) := hid (HT5.out.trans hds_ HF_.out)
    clear HF_ HR_ hds_ hz_ HT5
    go_wp2_with (at_builtin; refine stopHere ?_)
    obtain ⟨ds_, hds_, hr_⟩ := HT6.out.row
    have HR_ := hid hr_
    have hz_ := Nat.le_trans h0 HT6.out.bel.size
    clear hr_
    refine (HI.out _ _ _ (HG.out.below (HT6.out.bel.mono hN)) (HT6.out.kd _ _ _ HD.out) HR_.out hz_ (by rw [List.length_append]; omega)).mono ?_
    rintro e w7_ ⟨v7_, rfl, HF_⟩
    have HT7 : Hid (Tx n0 w bs (0 + exK k + 24 + 2 + 24 + exK k) w7_ v7_) := hid (HT6.out.trans hds_ HF_.out)
    clear HF_ HR_ hds_ hz_ HT6
    have HQ_ : Hid (Tx n0 w bs (exK (k + 1)) w7_ v7_) := hid (HT7.out.mono (by omega))
    clear HT7
    go_wp2
    go_ret
    exact ⟨_, rfl, HQ_⟩
  · go_wp2_with (at_builtin; refine stopHere ?_)
    generalize hwq_ : World.alloc _ _ = w2_
    have HT2 : Hid (Tx n0 w bs (0) w2_ v) := hid (by rw [← hwq_]; exact HT1.out.below h0 (nbel _ _))
    clear hwq_ HT1
    go_wp2_with (at_builtin; refine stopHere ?_)
    obtain ⟨ds_, hds_, hr_⟩ := HT2.out.row
    have HR_ := hid hr_
    have hz_ := Nat.le_trans h0 HT2.out.bel.size
    clear hr_
    refine (HI.out _ _ _ (HG.out.below (HT2.out.bel.mono hN)) (HT2.out.kd _ _ _ HD.out) HR_.out hz_ (by rw [List.length_append]; omega)).mono ?_
    rintro e w3_ ⟨v3_, rfl, HF_⟩
    have HT3 : Hid (Tx n0 w bs (0 + exK k) w3_ v3_) := hid (HT2.out.trans hds_ HF_.out)
    clear HF_ HR_ hds_ hz_ HT2
    go_wp2_with (at_builtin; refine stopHere ?_)
    obtain ⟨ds_, hds_, hr_⟩ := HT3.out.row
    have HR_ := hid hr_
    have hz_ := Nat.le_trans h0 HT3.out.bel.size
    clear hr_
    refine (gapW (HT3.out.kd _ _ _ HD.out) hg HR_.out hz_ (by rw [List.length_append]; omega)).mono ?_
    rintro e w4_ ⟨v4_, rfl, HF_⟩
    have HT4 : Hid (Tx n0 w bs (0 + exK k + 24) w4_ v4_) := hid (HT3.out.trans hds_ HF_.out)
    clear HF_ HR_ hds_ hz_ HT3
    go_wp2_with (at_builtin; refine stopHere ?_)
    intro _
    obtain ⟨ds_, hds_, hr_⟩ := HT4.out.row
    have HR_ := hid hr_
    have hz_ := Nat.le_trans h0 HT4.out.bel.size
    clear hr_
    refine wpList_app_t rfl _ _ HR_.out rfl rfl _ rfl 2 (by decide) (by rw [List.length_append]; omega) hz_ ?_
    intro v5_ w5_ HF_
    have HT5 : Hid (Tx n0 w bs (0 + exK k + 24 + 2) w5_ v5_) := hid (HT4.out.trans hds_ HF_.out.tx)
    clear HF_ HR_ hds_ hz_ HT4
    go_wp2_with (at_builtin; refine stopHere ?_)
    obtain ⟨ds_, hds_, hr_⟩ := HT5.out.row
    have HR_ := hid hr_
    have hz_ := Nat.le_trans h0 HT5.out.bel.size
    clear hr_
    refine (gapW (HT5.out.kd _ _ _ HD.out) hg HR_.out hz_ (by rw [List.length_append]; omega)).mono ?_
    rintro e w6_ ⟨v6_, rfl, HF_⟩
    have HT6 : Hid (Tx n0 w bs (0 + exK k + 24 + 2 + 24) w6_ v6_) := hid (HT5.out.trans hds_ HF_.out)
    clear HF_ HR_ hds_ hz_ HT5
    go_wp2_with (at_builtin; refine stopHere ?_)
    obtain ⟨ds_, hds_, hr_⟩ := HT6.out.row
    have HR_ := hid hr_
    have hz_ := Nat.le_trans h0 HT6.out.bel.size
    clear hr_
    refine (HI.out _ _ _ (HG.out.below (HT6.out.bel.mono hN)) (HT6.out.kd _ _ _ HD.out) HR_.out hz_ (by rw [List.length_append]; omega)).mono ?_
    rintro e w7_ ⟨v7_, rfl, HF_⟩
    have HT7 : Hid (Tx n0 w bs (0 + exK k + 24 + 2 + 24 + exK k) w7_ v7_) := hid (HT6.out.trans hds_ HF_.out)
    clear HF_ HR_ hds_ hz_ HT6
    have HQ_ : Hid (Tx n0 w bs (exK (k + 1)) w7_ v7_) := hid (HT7.out.mono (by omega))
    clear HT7
    go_wp2
    go_ret
    exact ⟨_, rfl, HQ_⟩
  · go_wp2_with (at_builtin; refine stopHere ?_)
    generalize hwq_ : World.alloc _ _ = w2_
    have HT2 : Hid (Tx n0 w bs (0) w2_ v) := hid (by rw [← hwq_]; exact HT1.out.below h0 (nbel _ _))
    clear hwq_ HT1
    go_wp2_with (at_builtin; refine stopHere ?_)
    obtain ⟨ds_, hds_, hr_⟩ := HT2.out.row
    have HR_ := hid hr_
    have hz_ := Nat.le_trans h0 HT2.out.bel.size
    clear hr_
    refine (HI.out _ _ _ (HG.out.below (HT2.out.bel.mono hN)) (HT2.out.kd _ _ _ HD.out) HR_.out hz_ (by rw [List.length_append]; omega)).mono ?_
    rintro e w3_ ⟨v3_, rfl, HF_⟩
    have HT3 : Hid (Tx n0 w bs (0 + exK k) w3_ v3_) := hid (HT2.out.trans hds_ HF_.out)
    clear HF_ HR_ hds_ hz_ HT2
    go_wp2_with (at_builtin; refine stopHere ?_)
    obtain ⟨ds_, hds_, hr_⟩ := HT3.out.row
    have HR_ := hid hr_
    have hz_ := Nat.le_trans h0 HT3.out.bel.size
    clear hr_
    refine (gapW (HT3.out.kd _ _ _ HD.out) hg HR_.out hz_ (by rw [List.length_append]; omega)).mono ?_
    rintro e w4_ ⟨v4_, rfl, HF_⟩
    have HT4 : Hid (Tx n0 w bs (0 + exK k + 24) w4_ v4_) := hid (HT3.out.trans hds_ HF_.out)
    clear HF_ HR_ hds_ hz_ HT3
    go_wp2_with (at_builtin; refine stopHere ?_)
    intro _
    obtain ⟨ds_, hds_, hr_⟩ := HT4.out.row
    have HR_ := hid hr_
    have hz_ := Nat.le_trans h0 HT4.out.bel.size
    clear hr_
    refine wpList_app_t rfl _ _ HR_.out rfl rfl _ rfl 2 (by decide) (by rw [List.length_append]; omega) hz_ ?_
    intro v5_ w5_ HF_
    have HT5 : Hid (Tx n0 w bs (0 + exK k + 24 + 2) w5_ v5_) := hid (HT4.out.trans hds_ HF_.out.tx)
    clear HF_ HR_ hds_ hz_ HT4
    go_wp2_with (at_builtin; refine stopHere ?_)
    obtain ⟨ds_, hds_, hr_⟩ := HT5.out.row
    have HR_ := hid hr_
    have hz_ := Nat.le_trans h0 HT5.out.bel.size
    clear hr_
    refine (gapW (HT5.out.kd _ _ _ HD.out) hg HR_.out hz_ (by rw [List.length_append]; omega)).mono ?_
    rintro e w6_ ⟨v6_, rfl, HF_⟩
    have HT6 : Hid (Tx n0 w bs (0 + exK k + 24 + 2 + 24) w6_ v6_) := hid (HT5.out.trans hds_ HF_.out)
    clear HF_ HR_ hds_ hz_ HT5
    go_wp2_with (at_builtin; refine stopHere ?_)
    obtain ⟨ds_, hds_, hr_⟩ := HT6.out.row
    have HR_ := hid hr_
    have hz_ := Nat.le_trans h0 HT6.out.bel.size
    clear hr_
    refine (HI.out _ _ _ (HG.out.below (HT6.out.bel.mono hN)) (HT6.out.kd _ _ _ HD.out) HR_.out hz_ (by rw [List.length_append]; omega)).mono ?_
    rintro e w7_ ⟨v7_, rfl, HF_⟩
    have HT7 : Hid (Tx n0 w bs (0 + exK k + 24 + 2 + 24 + exK k) w7_ v7_) := hid (HT6.out.trans hds_ HF_.out)
    clear HF_ HR_ hds_ hz_ HT6
    have HQ_ : Hid (Tx n0 w bs (exK (k + 1)) w7_ v7_) := hid (HT7.out.mono (by omega))
    clear HT7
    go_wp2
    go_ret
    exact ⟨_, rfl, HQ_⟩
  · go_wp2_with (at_builtin; refine stopHere ?_)
    generalize hwq_ : World.alloc _ _ = w2_
    have HT2 : Hid (Tx n0 w bs (0) w2_ v) := hid (by rw [← hwq_]; exact HT1.out.below h0 (nbel _ _))
    clear hwq_ HT1
    go_wp2_with (at_builtin; refine stopHere ?_)
    obtain ⟨ds_, hds_, hr_⟩ := HT2.out.row
    have HR_ := hid hr_
    have hz_ := Nat.le_trans h0 HT2.out.bel.size
    clear hr_
    refine (HI.out _ _ _ (HG.out.below (HT2.out.bel.mono hN)) (HT2.out.kd _ _ _ HD.out) HR_.out hz_ (by rw [List.length_append]; omega)).mono ?_
    rintro e w3_ ⟨v3_, rfl, HF_⟩
    have HT3 : Hid (Tx n0 w bs (0 + exK k) w3_ v3_) := hid (HT2.out.trans hds_ HF_.out)
    clear HF_ HR_ hds_ hz_ HT2
    go_wp2_with (at_builtin; refine stopHere ?_)
    obtain ⟨ds_, hds_, hr_⟩ := HT3.out.row
    have HR_ := hid hr_
    have hz_ := Nat.le_trans h0 HT3.out.bel.size
    clear hr_
    refine (gapW (HT3.out.kd _ _ _ HD.out) hg HR_.out hz_ (by rw [List.length_append]; omega)).mono ?_
    rintro e w4_ ⟨v4_, rfl, HF_⟩
    have HT4 : Hid (Tx n0 w bs (0 + exK k + 24) w4_ v4_) := hid (HT3.out.trans hds_ HF_.out)
    clear HF_ HR_ hds_ hz_ HT3
    go_wp2_with (at_builtin; refine stopHere ?_)
    intro _
    obtain ⟨ds_, hds_, hr_⟩ := HT4.out.row
    have HR_ := hid hr_
    have hz_ := Nat.le_trans h0 HT4.out.bel.size
    clear hr_
    refine wpList_app_t rfl _ _ HR_.out rfl rfl _ rfl 2 (by decide) (by rw [List.length_append]; omega) hz_ ?_
    intro v5_ w5_ HF_
    have HT5 : Hid (Tx n0 w bs (0 + exK k + 24 + 2) w5_ v5_) := hid (HT4.out.trans hds_ HF_.out.tx)
    clear HF_ HR_ hds_ hz_ HT4
    go_wp2_with (at_builtin; refine stopHere ?_)
    obtain ⟨ds_, hds_, hr_⟩ := HT5.out.row
    have HR_ := hid hr_
    have hz_ := Nat.le_trans h0 HT5.out.bel.size
    clear hr_
    refine (gapW (HT5.out.kd _ _ _ HD.out) hg HR_.out hz_ (by rw [List.length_append]; omega)).mono ?_
    rintro e w6_ ⟨v6_, rfl, HF_⟩
    have HT6 : Hid (Tx n0 w bs (0 + exK k + 24 + 2 + 24) w6_ v6_) := hid (HT5.out.trans hds_ HF_.out)
    clear HF_ HR_ hds_ hz_ HT5
    go_wp2_with (at_builtin; refine stopHere ?_)
    obtain ⟨ds_, hds_, hr_⟩ := HT6.out.row
    have HR_ := hid hr_
    have hz_ := Nat.le_trans h0 HT6.out.bel.size
    clear hr_
    refine (HI.out _ _ _ (HG.out.below (HT6.out.bel.mono hN)) (HT6.out.kd _ _ _ HD.out) HR_.out hz_ (by rw [List.length_append]; omega)).mono ?_
    rintro e w7_ ⟨v7_, rfl, HF_⟩
    have HT7 : Hid (Tx n0 w bs (0 + exK k + 24 + 2 + 24 + exK k) w7_ v7_) := hid (HT6.out.trans hds_ HF_.out)
    clear HF_ HR_ hds_ hz_ HT6
    have HQ_ : Hid (Tx n0 w bs (exK (k + 1)) w7_ v7_) := hid (HT7.out.mono (by omega))
    clear HT7
    go_wp2
    go_ret
    exact ⟨_, rfl, HQ_⟩
  · go_wp2_with (at_builtin; refine stopHere ?_)
    intro _
    obtain ⟨ds_, hds_, hr_⟩ := HT1.out.row
    have HR_ := hid hr_
    have hz_ := Nat.le_trans h0 HT1.out.bel.size
    clear hr_
    refine wpList_app_n rfl _ _ [40] HR_.out rfl rfl _ rfl 1 rfl rfl (by rw [List.length_append]; omega) hz_ ?_
    intro v2_ w2_ HF_
    have HT2 : Hid (Tx n0 w bs (0 + 1) w2_ v2_) := hid (HT1.out.trans hds_ HF_.out.tx)
    clear HF_ HR_ hds_ hz_ HT1
    go_wp2_with (at_builtin; refine stopHere ?_)
    obtain ⟨ds_, hds_, hr_⟩ := HT2.out.row
    have HR_ := hid hr_
    have hz_ := Nat.le_trans h0 HT2.out.bel.size
    clear hr_
    refine (HI.out _ _ _ (HG.out.below (HT2.out.bel.mono hN)) (HT2.out.kd _ _ _ HD.out) HR_.out hz_ (by rw [List.length_append]; omega)).mono ?_
    rintro e w3_ ⟨v3_, rfl, HF_⟩
    have HT3 : Hid (Tx n0 w bs (0 + 1 + exK k) w3_ v3_) := hid (HT2.out.trans hds_ HF_.out)
    clear HF_ HR_ hds_ hz_ HT2
    go_wp2_with (at_builtin; refine stopHere ?_)
    intro _
    obtain ⟨ds_, hds_, hr_⟩ := HT3.out.row
    have HR_ := hid hr_
    have hz_ := Nat.le_trans h0 HT3.out.bel.size
    clear hr_
    refine wpList_app_n rfl _ _ [41] HR_.out rfl rfl _ rfl 1 rfl rfl (by rw [List.length_append]; omega) hz_ ?_
    intro v4_ w4_ HF_
    have HT4 : Hid (Tx n0 w bs (0 + 1 + exK k + 1) w4_ v4_) := hid (HT3.out.trans hds_ HF_.out.tx)
    clear HF_ HR_ hds_ hz_ HT3
    have HQ_ : Hid (Tx n0 w bs (exK (k + 1)) w4_ v4_) := hid (HT4.out.mono (by omega))
    clear HT4
    go_wp2
    go_ret
    exact ⟨_, rfl, HQ_⟩
  · go_wp2_with (at_builtin; refine stopHere ?_)
    intro _
    obtain ⟨ds_, hds_, hr_⟩ := HT1.out.row
    have HR_ := hid hr_
    have hz_ := Nat.le_trans h0 HT1.out.bel.size
    clear hr_
    refine wpList_app_n rfl _ _ [40] HR_.out rfl rfl _ rfl 1 rfl rfl (by rw [List.length_append]; omega) hz_ ?_
    intro v2_ w2_ HF_
    have HT2 : Hid (Tx n0 w bs (0 + 1) w2_ v2_) := hid (HT1.out.trans hds_ HF_.out.tx)
    clear HF_ HR_ hds_ hz_ HT1
    go_wp2_with (at_builtin; refine stopHere ?_)
    obtain ⟨ds_, hds_, hr_⟩ := HT2.out.row
    have HR_ := hid hr_
    have hz_ := Nat.le_trans h0 HT2.out.bel.size
    clear hr_
    refine (HI.out _ _ _ (HG.out.below (HT2.out.bel.mono hN)) (HT2.out.kd _ _ _ HD.out) HR_.out hz_ (by rw [List.length_append]; omega)).mono ?_
    rintro e w3_ ⟨v3_, rfl, HF_⟩
    have HT3 : Hid (Tx n0 w bs (0 + 1 + exK k) w3_ v3_) := hid (HT2.out.trans hds_ HF_.out)
    clear HF_ HR_ hds_ hz_ HT2
    go_wp2_with (at_builtin; refine stopHere ?_)
    intro _
    obtain ⟨ds_, hds_, hr_⟩ := HT3.out.row
    have HR_ := hid hr_
    have hz_ := Nat.le_trans h0 HT3.out.bel.size
    clear hr_
    refine wpList_app_n rfl _ _ [41] HR_.out rfl rfl _ rfl 1 rfl rfl (by rw [List.length_append]; omega) hz_ ?_
    intro v4_ w4_ HF_
    have HT4 : Hid (Tx n0 w bs (0 + 1 + exK k + 1) w4_ v4_) := hid (HT3.out.trans hds_ HF_.out.tx)
    clear HF_ HR_ hds_ hz_ HT3
    have HQ_ : Hid (Tx n0 w bs (exK (k + 1)) w4_ v4_) := hid (HT4.out.mono (by omega))
    clear HT4
    go_wp2
    go_ret
    exact ⟨_, rfl, HQ_⟩
  · go_wp2_with (at_builtin; refine stopHere ?_)
    intro _
    obtain ⟨ds_, hds_, hr_⟩ := HT1.out.row
    have HR_ := hid hr_
    have hz_ := Nat.le_trans h0 HT1.out.bel.size
    clear hr_
    refine wpList_app_n rfl _ _ [40] HR_.out rfl rfl _ rfl 1 rfl rfl (by rw [List.length_append]; omega) hz_ ?_
    intro v2_ w2_ HF_
    have HT2 : Hid (Tx n0 w bs (0 + 1) w2_ v2_) := hid (HT1.out.trans hds_ HF_.out.tx)
    clear HF_ HR_ hds_ hz_ HT1
    go_wp2_with (at_builtin; refine stopHere ?_)
    obtain ⟨ds_, hds_, hr_⟩ := HT2.out.row
    have HR_ := hid hr_
    have hz_ := Nat.le_trans h0 HT2.out.bel.size
    clear hr_
    refine (HI.out _ _ _ (HG.out.below (HT2.out.bel.mono hN)) (HT2.out.kd _ _ _ HD.out) HR_.out hz_ (by rw [List.length_append]; omega)).mono ?_
    rintro e w3_ ⟨v3_, rfl, HF_⟩
    have HT3 : Hid (Tx n0 w bs (0 + 1 + exK k) w3_ v3_) := hid (HT2.out.trans hds_ HF_.out)
    clear HF_ HR_ hds_ hz_ HT2
    go_wp2_with (at_builtin; refine stopHere ?_)
    intro _
    obtain ⟨ds_, hds_, hr_⟩ := HT3.out.row
    have HR_ := hid hr_
    have hz_ := Nat.le_trans h0 HT3.out.bel.size
    clear hr_
    refine wpList_app_n rfl _ _ [41] HR_.out rfl rfl _ rfl 1 rfl rfl (by rw [List.length_append]; omega) hz_ ?_
    intro v4_ w4_ HF_
    have HT4 : Hid (Tx n0 w bs (0 + 1 + exK k + 1) w4_ v4_) := hid (HT3.out.trans hds_ HF_.out.tx)
    clear HF_ HR_ hds_ hz_ HT3
    have HQ_ : Hid (Tx n0 w bs (exK (k + 1)) w4_ v4_) := hid (HT4.out.mono (by omega))
    clear HT4
    go_wp2
    go_ret
    exact ⟨_, rfl, HQ_⟩
end
end Go.Proofs.Qxb6500883aGreatDoor
