/- Texts of scripts: nests (written by tools/mk_tx.py). -/
import Derived.Test.Qxb6500883aGreatDoorScTe
namespace Go.Proofs.Qxb6500883aGreatDoor
open Go.RowKit
set_option linter.unusedSimpArgs false
set_option linter.unusedVariables false
section
variable {w w' : World} {n0 : Nat} {v v' : Value} {bs : List UInt8} {g ty co N mg kd oa ob oc : Nat} {os : ByteArray}
set_option maxRecDepth 100000 in
set_option maxHeartbeats 8000000 in
theorem appendNestW (hoa : oa < 18446744073709551616) (hob : ob < 18446744073709551616) (hoc : oc < 18446744073709551616) (hr : OwR rtB n0 w v bs) (h0 : n0 ≤ w.heap.size) (hl : bs.length ≤ 60000000000000) : Calls Tryz.prog 48 #[v, .agg #[.int .u8 (kd : Int), .int .u64 (oa : Int), .int .u64 (ob : Int), .int .u64 (oc : Int), .string os]] w fun e w' => ∃ v', e = .returned v' ∧ Hid (Tx n0 w bs 6500 w' v') := by
  have HR0 := hid hr
  obtain ⟨p, hp⟩ : ∃ p, w.heap.size = p := ⟨_, rfl⟩
  have k0 := Blk.new w [.int .u8 (kd : Int), .int .u64 (oa : Int), .int .u64 (ob : Int), .int .u64 (oc : Int), .string os] 85
  rw [hp] at k0
  have hb1 : Below w.heap.size w (w.alloc (.cells [.int .u8 (kd : Int), .int .u64 (oa : Int), .int .u64 (ob : Int), .int .u64 (oc : Int), .string os].toArray 85)) := nbel w _
  skip
  clear hr
  go_enter Tryz.func48, Tryz.ntmps48
  go_upto_region 1 with fail
  (try simp only [hp])
  generalize hw1 : w.alloc _ = w1 at k0 hb1 ⊢
  clear hw1
  have HP1 := hid k0
  have HB1 := hid hb1
  have cA := k0.cell 1
  have cB := k0.cell 2
  have cC := k0.cell 3
  clear k0 hb1 hp
  obtain ⟨m36, e6_, h6_⟩ : ∃ q : Nat, (ob : Int) % 36 = (q : Int) ∧ q ≤ 35 := ⟨ob % 36, by omega, by omega⟩
  have e7_ : IntKind.i64.wrap (m36 : Int) = (m36 : Int) := by rw [IntKind.wrap_i64]; omega
  obtain ⟨c3, e8_, h8_⟩ : ∃ q : Nat, (oc : Int) % 3 = (q : Int) ∧ q < 3 := ⟨oc % 3, by omega, by omega⟩
  have HZ : Hid (Tx n0 w bs 0 w1 v) := hid ((Tx.start HR0.out).below h0 (HB1.out))
  have HT0 : Hid (Tx n0 w1 bs 0 w1 v) := hid (Tx.start HZ.out.row0)
  have h0b : n0 ≤ w1.heap.size := Nat.le_trans h0 HZ.out.bel.size
  have HP := HP1
  go_wp2_with (at_builtin; refine stopHere ?_)
  refine (typeNameW oa hoa _).mono ?_
  rintro e w1_ ⟨s, rfl, hs, HB_⟩
  have HT1 : Hid (Tx n0 w1 bs (0) w1_ v) := hid (HT0.out.below h0b HB_.out)
  clear HB_ HT0
  go_wp2_with (at_builtin; refine stopHere ?_)
  intro _
  obtain ⟨ds_, hds_, hr_⟩ := HT1.out.row
  have HR_ := hid hr_
  have hz_ := Nat.le_trans h0b HT1.out.bel.size
  clear hr_
  refine wpList_app_t rfl _ _ HR_.out rfl rfl _ rfl 11 (by rw [ByteArray.size_append, ByteArray.size_append]; have e1 : (⟨#[116, 121, 112, 101, 32]⟩ : ByteArray).size = 5 := rfl; have e2 : (⟨#[32, 61, 32]⟩ : ByteArray).size = 3 := rfl; omega) (by rw [List.length_append]; omega) hz_ ?_
  intro v2_ w2_ HF_
  have HT2 : Hid (Tx n0 w1 bs (0 + 11) w2_ v2_) := hid (HT1.out.trans hds_ HF_.out.tx)
  clear HF_ HR_ hds_ hz_ HT1
  have fC := (HT2.out.kt _ _ _ HP.out (by decide) (by decide)).cell 3
  obtain hc3 | hc3 | hc3 : c3 = 0 ∨ c3 = 1 ∨ c3 = 2 := by omega
  · have z0_ : ((c3 : Int) == 0) = true := by simp; omega
    clear hc3 h8_
    go_upto_region 6 with fail
    (try simp only [e8_])
    go_loopw [0, 6] (fun s t wr => ∃ (i : Nat) (b : Value), s = b ∧ t = .int .i64 (i : Int) ∧ i ≤ m36 + 1 ∧ Hid (Tx n0 w1 bs (0 + 11 + i * 5) wr b)) (fun _ t _ => m36 + 1 - (intOf t).toNat)
    case atStart => exact ⟨0, _, rfl, by go_num, by omega, hid (HT2.out.mono (by omega))⟩
    case round =>
    obtain ⟨i, b, rfl, rfl, hi, HL⟩ := hrel
    clear HT2
    by_cases hin : i < m36
    · have d1_ : decide ((i : Int) < (m36 : Int)) = true := decide_eq_true (by omega)
      go_wp2_with (at_builtin; refine stopHere ?_)
      intro _
      obtain ⟨ds_, hds_, hr_⟩ := HL.out.row
      have HR_ := hid hr_
      have hz_ := Nat.le_trans h0b HL.out.bel.size
      clear hr_
      refine wpList_app_t rfl _ _ HR_.out rfl rfl _ rfl 5 (by decide) (by rw [List.length_append]; omega) hz_ ?_
      intro v3_ w3_ HF_
      have HT3 : Hid (Tx n0 w1 bs (0 + 11 + i * 5 + 5) w3_ v3_) := hid (HL.out.trans hds_ HF_.out.tx)
      clear HF_ HR_ hds_ hz_ HL
      have HQ_ : Hid (Tx n0 w1 bs (0 + 11 + (i + 1) * 5) w3_ v3_) := hid (HT3.out.mono (by omega))
      clear HT3
      go_wp2
      exact ⟨⟨i + 1, _, rfl, by go_num, by omega, HQ_⟩, by simp [intOf]; omega⟩
    · have d1_ : decide ((i : Int) < (m36 : Int)) = false := decide_eq_false (by omega)
      go_wp2_with (at_builtin; refine stopHere ?_)
      intro _
      obtain ⟨ds_, hds_, hr_⟩ := HL.out.row
      have HR_ := hid hr_
      have hz_ := Nat.le_trans h0b HL.out.bel.size
      clear hr_
      refine wpList_app_t rfl _ _ HR_.out rfl rfl _ rfl 5 (by decide) (by rw [List.length_append]; omega) hz_ ?_
      intro v3_ w3_ HF_
      have HT3 : Hid (Tx n0 w1 bs (0 + 11 + i * 5 + 5) w3_ v3_) := hid (HL.out.trans hds_ HF_.out.tx)
      clear HF_ HR_ hds_ hz_ HL
      have HM_ : Hid (Tx n0 w1 bs (0 + 11 + 36 * 5 + 5) w3_ v3_) := hid (HT3.out.mono (by omega))
      clear HT3 hin hi d1_
      go_upto_region 11 with fail
      (try simp only [e8_])
      go_loopw [0, 7] (fun s t wr => ∃ (i : Nat) (b : Value), s = b ∧ t = .int .i64 (i : Int) ∧ i ≤ m36 + 1 ∧ Hid (Tx n0 w1 bs (0 + 11 + 36 * 5 + 5 + i * 4) wr b)) (fun _ t _ => m36 + 1 - (intOf t).toNat)
      case atStart => exact ⟨0, _, rfl, by go_num, by omega, hid (HM_.out.mono (by omega))⟩
      case round =>
      obtain ⟨i, b, rfl, rfl, hi, HL⟩ := hrel
      clear HM_
      by_cases hin : i < m36
      · have d1_ : decide ((i : Int) < (m36 : Int)) = true := decide_eq_true (by omega)
        go_wp2_with (at_builtin; refine stopHere ?_)
        intro _
        obtain ⟨ds_, hds_, hr_⟩ := HL.out.row
        have HR_ := hid hr_
        have hz_ := Nat.le_trans h0b HL.out.bel.size
        clear hr_
        refine wpList_app_t rfl _ _ HR_.out rfl rfl _ rfl 4 (by decide) (by rw [List.length_append]; omega) hz_ ?_
        intro v4_ w4_ HF_
        have HT4 : Hid (Tx n0 w1 bs (0 + 11 + 36 * 5 + 5 + i * 4 + 4) w4_ v4_) := hid (HL.out.trans hds_ HF_.out.tx)
        clear HF_ HR_ hds_ hz_ HL
        have HQ_ : Hid (Tx n0 w1 bs (0 + 11 + 36 * 5 + 5 + (i + 1) * 4) w4_ v4_) := hid (HT4.out.mono (by omega))
        clear HT4
        go_wp2
        exact ⟨⟨i + 1, _, rfl, by go_num, by omega, HQ_⟩, by simp [intOf]; omega⟩
      · have d1_ : decide ((i : Int) < (m36 : Int)) = false := decide_eq_false (by omega)
        go_wp2_with (at_builtin; refine stopHere ?_)
        intro _
        obtain ⟨ds_, hds_, hr_⟩ := HL.out.row
        have HR_ := hid hr_
        have hz_ := Nat.le_trans h0b HL.out.bel.size
        clear hr_
        refine wpList_app_t rfl _ _ HR_.out rfl rfl _ rfl 2 (by decide) (by rw [List.length_append]; omega) hz_ ?_
        intro v4_ w4_ HF_
        have HT4 : Hid (Tx n0 w1 bs (0 + 11 + 36 * 5 + 5 + i * 4 + 2) w4_ v4_) := hid (HL.out.trans hds_ HF_.out.tx)
        clear HF_ HR_ hds_ hz_ HL
        have HQ_ : Hid (Tx n0 w bs (6500) w4_ v4_) := hid ((HZ.out.trans (ds := []) (Nat.le_refl _) (by rw [List.append_nil]; exact HT4.out)).mono (by omega))
        clear HT4
        go_wp2
        go_ret
        exact ⟨_, rfl, HQ_⟩
  · have z0_ : ((c3 : Int) == 0) = false := by simp; omega
    have z1_ : ((c3 : Int) == 1) = true := by simp; omega
    clear hc3 h8_
    go_upto_region 16 with fail
    (try simp only [e8_])
    go_loopw [0, 8] (fun s t wr => ∃ (i : Nat) (b : Value), s = b ∧ t = .int .i64 (i : Int) ∧ i ≤ m36 + 1 ∧ Hid (Tx n0 w1 bs (0 + 11 + i * 6) wr b)) (fun _ t _ => m36 + 1 - (intOf t).toNat)
    case atStart => exact ⟨0, _, rfl, by go_num, by omega, hid (HT2.out.mono (by omega))⟩
    case round =>
    obtain ⟨i, b, rfl, rfl, hi, HL⟩ := hrel
    clear HT2
    by_cases hin : i < m36
    · have d1_ : decide ((i : Int) < (m36 : Int)) = true := decide_eq_true (by omega)
      go_wp2_with (at_builtin; refine stopHere ?_)
      intro _
      obtain ⟨ds_, hds_, hr_⟩ := HL.out.row
      have HR_ := hid hr_
      have hz_ := Nat.le_trans h0b HL.out.bel.size
      clear hr_
      refine wpList_app_t rfl _ _ HR_.out rfl rfl _ rfl 6 (by decide) (by rw [List.length_append]; omega) hz_ ?_
      intro v3_ w3_ HF_
      have HT3 : Hid (Tx n0 w1 bs (0 + 11 + i * 6 + 6) w3_ v3_) := hid (HL.out.trans hds_ HF_.out.tx)
      clear HF_ HR_ hds_ hz_ HL
      have HQ_ : Hid (Tx n0 w1 bs (0 + 11 + (i + 1) * 6) w3_ v3_) := hid (HT3.out.mono (by omega))
      clear HT3
      go_wp2
      exact ⟨⟨i + 1, _, rfl, by go_num, by omega, HQ_⟩, by simp [intOf]; omega⟩
    · have d1_ : decide ((i : Int) < (m36 : Int)) = false := decide_eq_false (by omega)
      go_wp2_with (at_builtin; refine stopHere ?_)
      intro _
      obtain ⟨ds_, hds_, hr_⟩ := HL.out.row
      have HR_ := hid hr_
      have hz_ := Nat.le_trans h0b HL.out.bel.size
      clear hr_
      refine wpList_app_t rfl _ _ HR_.out rfl rfl _ rfl 6 (by decide) (by rw [List.length_append]; omega) hz_ ?_
      intro v3_ w3_ HF_
      have HT3 : Hid (Tx n0 w1 bs (0 + 11 + i * 6 + 6) w3_ v3_) := hid (HL.out.trans hds_ HF_.out.tx)
      clear HF_ HR_ hds_ hz_ HL
      have HM_ : Hid (Tx n0 w1 bs (0 + 11 + 36 * 6 + 6) w3_ v3_) := hid (HT3.out.mono (by omega))
      clear HT3 hin hi d1_
      go_upto_region 21 with fail
      (try simp only [e8_])
      go_loopw [0, 9] (fun s t wr => ∃ (i : Nat) (b : Value), s = b ∧ t = .int .i64 (i : Int) ∧ i ≤ m36 + 1 ∧ Hid (Tx n0 w1 bs (0 + 11 + 36 * 6 + 6 + i * 1) wr b)) (fun _ t _ => m36 + 1 - (intOf t).toNat)
      case atStart => exact ⟨0, _, rfl, by go_num, by omega, hid (HM_.out.mono (by omega))⟩
      case round =>
      obtain ⟨i, b, rfl, rfl, hi, HL⟩ := hrel
      clear HM_
      by_cases hin : i < m36
      · have d1_ : decide ((i : Int) < (m36 : Int)) = true := decide_eq_true (by omega)
        go_wp2_with (at_builtin; refine stopHere ?_)
        intro _
        obtain ⟨ds_, hds_, hr_⟩ := HL.out.row
        have HR_ := hid hr_
        have hz_ := Nat.le_trans h0b HL.out.bel.size
        clear hr_
        refine wpList_app_n rfl _ _ [93] HR_.out rfl rfl _ rfl 1 rfl rfl (by rw [List.length_append]; omega) hz_ ?_
        intro v4_ w4_ HF_
        have HT4 : Hid (Tx n0 w1 bs (0 + 11 + 36 * 6 + 6 + i * 1 + 1) w4_ v4_) := hid (HL.out.trans hds_ HF_.out.tx)
        clear HF_ HR_ hds_ hz_ HL
        have HQ_ : Hid (Tx n0 w1 bs (0 + 11 + 36 * 6 + 6 + (i + 1) * 1) w4_ v4_) := hid (HT4.out.mono (by omega))
        clear HT4
        go_wp2
        exact ⟨⟨i + 1, _, rfl, by go_num, by omega, HQ_⟩, by simp [intOf]; omega⟩
      · have d1_ : decide ((i : Int) < (m36 : Int)) = false := decide_eq_false (by omega)
        go_wp2_with (at_builtin; refine stopHere ?_)
        intro _
        obtain ⟨ds_, hds_, hr_⟩ := HL.out.row
        have HR_ := hid hr_
        have hz_ := Nat.le_trans h0b HL.out.bel.size
        clear hr_
        refine wpList_app_t rfl _ _ HR_.out rfl rfl _ rfl 2 (by decide) (by rw [List.length_append]; omega) hz_ ?_
        intro v4_ w4_ HF_
        have HT4 : Hid (Tx n0 w1 bs (0 + 11 + 36 * 6 + 6 + i * 1 + 2) w4_ v4_) := hid (HL.out.trans hds_ HF_.out.tx)
        clear HF_ HR_ hds_ hz_ HL
        have HQ_ : Hid (Tx n0 w bs (6500) w4_ v4_) := hid ((HZ.out.trans (ds := []) (Nat.le_refl _) (by rw [List.append_nil]; exact HT4.out)).mono (by omega))
        clear HT4
        go_wp2
        go_ret
        exact ⟨_, rfl, HQ_⟩
  · have z0_ : ((c3 : Int) == 0) = false := by simp; omega
    have z1_ : ((c3 : Int) == 1) = false := by simp; omega
    have z2_ : ((c3 : Int) == 2) = true := by simp; omega
    clear hc3 h8_
    go_wp2_with (at_builtin; refine stopHere ?_)
    intro _
    obtain ⟨ds_, hds_, hr_⟩ := HT2.out.row
    have HR_ := hid hr_
    have hz_ := Nat.le_trans h0b HT2.out.bel.size
    clear hr_
    refine wpList_app_t rfl _ _ HR_.out rfl rfl _ rfl 8 (by decide) (by rw [List.length_append]; omega) hz_ ?_
    intro v3_ w3_ HF_
    have HT3 : Hid (Tx n0 w1 bs (0 + 11 + 8) w3_ v3_) := hid (HT2.out.trans hds_ HF_.out.tx)
    clear HF_ HR_ hds_ hz_ HT2
    go_upto_region 27 with fail
    (try simp only [e8_])
    go_loopw [0, 10] (fun s t wr => ∃ (i : Nat) (b : Value), s = b ∧ t = .int .i64 (i : Int) ∧ i ≤ m36 + 1 ∧ Hid (Tx n0 w1 bs (0 + 11 + 8 + i * 1) wr b)) (fun _ t _ => m36 + 1 - (intOf t).toNat)
    case atStart => exact ⟨1, _, rfl, by go_num, by omega, hid (HT3.out.mono (by omega))⟩
    case round =>
    obtain ⟨i, b, rfl, rfl, hi, HL⟩ := hrel
    clear HT3
    by_cases hin : i < m36
    · have d1_ : decide ((i : Int) < (m36 : Int)) = true := decide_eq_true (by omega)
      go_wp2_with (at_builtin; refine stopHere ?_)
      intro _
      obtain ⟨ds_, hds_, hr_⟩ := HL.out.row
      have HR_ := hid hr_
      have hz_ := Nat.le_trans h0b HL.out.bel.size
      clear hr_
      refine wpList_app_n rfl _ _ [40] HR_.out rfl rfl _ rfl 1 rfl rfl (by rw [List.length_append]; omega) hz_ ?_
      intro v4_ w4_ HF_
      have HT4 : Hid (Tx n0 w1 bs (0 + 11 + 8 + i * 1 + 1) w4_ v4_) := hid (HL.out.trans hds_ HF_.out.tx)
      clear HF_ HR_ hds_ hz_ HL
      have HQ_ : Hid (Tx n0 w1 bs (0 + 11 + 8 + (i + 1) * 1) w4_ v4_) := hid (HT4.out.mono (by omega))
      clear HT4
      go_wp2
      exact ⟨⟨i + 1, _, rfl, by go_num, by omega, HQ_⟩, by simp [intOf]; omega⟩
    · have d1_ : decide ((i : Int) < (m36 : Int)) = false := decide_eq_false (by omega)
      go_wp2_with (at_builtin; refine stopHere ?_)
      intro _
      obtain ⟨ds_, hds_, hr_⟩ := HL.out.row
      have HR_ := hid hr_
      have hz_ := Nat.le_trans h0b HL.out.bel.size
      clear hr_
      refine wpList_app_n rfl _ _ [55] HR_.out rfl rfl _ rfl 1 rfl rfl (by rw [List.length_append]; omega) hz_ ?_
      intro v4_ w4_ HF_
      have HT4 : Hid (Tx n0 w1 bs (0 + 11 + 8 + i * 1 + 1) w4_ v4_) := hid (HL.out.trans hds_ HF_.out.tx)
      clear HF_ HR_ hds_ hz_ HL
      have HM_ : Hid (Tx n0 w1 bs (0 + 11 + 8 + 36 * 1 + 1) w4_ v4_) := hid (HT4.out.mono (by omega))
      clear HT4 hin hi d1_
      go_upto_region 32 with fail
      (try simp only [e8_])
      go_loopw [0, 11] (fun s t wr => ∃ (i : Nat) (b : Value), s = b ∧ t = .int .i64 (i : Int) ∧ i ≤ m36 + 1 ∧ Hid (Tx n0 w1 bs (0 + 11 + 8 + 36 * 1 + 1 + i * 1) wr b)) (fun _ t _ => m36 + 1 - (intOf t).toNat)
      case atStart => exact ⟨1, _, rfl, by go_num, by omega, hid (HM_.out.mono (by omega))⟩
      case round =>
      obtain ⟨i, b, rfl, rfl, hi, HL⟩ := hrel
      clear HM_
      by_cases hin : i < m36
      · have d1_ : decide ((i : Int) < (m36 : Int)) = true := decide_eq_true (by omega)
        go_wp2_with (at_builtin; refine stopHere ?_)
        intro _
        obtain ⟨ds_, hds_, hr_⟩ := HL.out.row
        have HR_ := hid hr_
        have hz_ := Nat.le_trans h0b HL.out.bel.size
        clear hr_
        refine wpList_app_n rfl _ _ [41] HR_.out rfl rfl _ rfl 1 rfl rfl (by rw [List.length_append]; omega) hz_ ?_
        intro v5_ w5_ HF_
        have HT5 : Hid (Tx n0 w1 bs (0 + 11 + 8 + 36 * 1 + 1 + i * 1 + 1) w5_ v5_) := hid (HL.out.trans hds_ HF_.out.tx)
        clear HF_ HR_ hds_ hz_ HL
        have HQ_ : Hid (Tx n0 w1 bs (0 + 11 + 8 + 36 * 1 + 1 + (i + 1) * 1) w5_ v5_) := hid (HT5.out.mono (by omega))
        clear HT5
        go_wp2
        exact ⟨⟨i + 1, _, rfl, by go_num, by omega, HQ_⟩, by simp [intOf]; omega⟩
      · have d1_ : decide ((i : Int) < (m36 : Int)) = false := decide_eq_false (by omega)
        go_wp2_with (at_builtin; refine stopHere ?_)
        intro _
        obtain ⟨ds_, hds_, hr_⟩ := HL.out.row
        have HR_ := hid hr_
        have hz_ := Nat.le_trans h0b HL.out.bel.size
        clear hr_
        refine wpList_app_n rfl _ _ [93] HR_.out rfl rfl _ rfl 1 rfl rfl (by rw [List.length_append]; omega) hz_ ?_
        intro v5_ w5_ HF_
        have HT5 : Hid (Tx n0 w1 bs (0 + 11 + 8 + 36 * 1 + 1 + i * 1 + 1) w5_ v5_) := hid (HL.out.trans hds_ HF_.out.tx)
        clear HF_ HR_ hds_ hz_ HL
        go_wp2_with (at_builtin; refine stopHere ?_)
        intro _
        obtain ⟨ds_, hds_, hr_⟩ := HT5.out.row
        have HR_ := hid hr_
        have hz_ := Nat.le_trans h0b HT5.out.bel.size
        clear hr_
        refine wpList_app_t rfl _ _ HR_.out rfl rfl _ rfl 2 (by decide) (by rw [List.length_append]; omega) hz_ ?_
        intro v6_ w6_ HF_
        have HT6 : Hid (Tx n0 w1 bs (0 + 11 + 8 + 36 * 1 + 1 + i * 1 + 1 + 2) w6_ v6_) := hid (HT5.out.trans hds_ HF_.out.tx)
        clear HF_ HR_ hds_ hz_ HT5
        have HQ_ : Hid (Tx n0 w bs (6500) w6_ v6_) := hid ((HZ.out.trans (ds := []) (Nat.le_refl _) (by rw [List.append_nil]; exact HT6.out)).mono (by omega))
        clear HT6
        go_wp2
        go_ret
        exact ⟨_, rfl, HQ_⟩
end
end Go.Proofs.Qxb6500883aGreatDoor
