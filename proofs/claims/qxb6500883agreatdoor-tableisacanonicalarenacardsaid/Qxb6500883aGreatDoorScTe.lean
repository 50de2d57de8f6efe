/- Texts of scripts: constants, aliases, containers, unions (written by tools/mk_tx.py). -/
import Derived.Test.Qxb6500883aGreatDoorScTd
namespace Go.Proofs.Qxb6500883aGreatDoor
open Go.RowKit
set_option linter.unusedSimpArgs false
set_option linter.unusedVariables false
section
variable {w w' : World} {n0 : Nat} {v v' : Value} {bs : List UInt8} {g ty co N mg kd oa ob oc : Nat} {os : ByteArray}
theorem typW (hg : n0 ≤ g) (hN : N ≤ n0) : ∀ k, k ≤ 3 → TyC n0 N mg g ty co k
  | 0, _ => typ0 hg hN
  | k + 1, h => typS hg hN (by omega) (typW hg hN k (by omega))
set_option maxRecDepth 100000 in
set_option maxHeartbeats 8000000 in
theorem appendConstW (hN : N ≤ n0) (hgl : Gl N mg w) (hoa : oa < 18446744073709551616) (hob : ob < 18446744073709551616) (hoc : oc < 18446744073709551616) (hr : OwR rtB n0 w v bs) (h0 : n0 ≤ w.heap.size) (hl : bs.length ≤ 60000000000000) : Calls Tryz.prog 43 #[v, .agg #[.int .u8 (kd : Int), .int .u64 (oa : Int), .int .u64 (ob : Int), .int .u64 (oc : Int), .string os]] w fun e w' => ∃ v', e = .returned v' ∧ Hid (Tx n0 w bs 6500 w' v') := by
  have HR0 := hid hr
  obtain ⟨p, hp⟩ : ∃ p, w.heap.size = p := ⟨_, rfl⟩
  have k0 := Blk.new w [.int .u8 (kd : Int), .int .u64 (oa : Int), .int .u64 (ob : Int), .int .u64 (oc : Int), .string os] 85
  rw [hp] at k0
  have hb1 : Below w.heap.size w (w.alloc (.cells [.int .u8 (kd : Int), .int .u64 (oa : Int), .int .u64 (ob : Int), .int .u64 (oc : Int), .string os].toArray 85)) := nbel w _
  have HG0 := hid hgl
  clear hr hgl
  go_enter Tryz.func43, Tryz.ntmps43
  go_upto_region 1 with fail
  (try simp only [hp])
  generalize hw1 : w.alloc _ = w1 at k0 hb1 ⊢
  clear hw1
  have HP1 := hid k0
  have HB1 := hid hb1
  have cA := k0.cell 1
  have cB := k0.cell 2
  have cC := k0.cell 3
  clear k0 hb1 hp
  have hx3 : exK 3 = 526 := rfl
  go_wp2_with (at_builtin; refine stopHere ?_)
  refine (newDrawW ob oc (by omega) (by omega) w1).mono ?_
  rintro e w2 ⟨rfl, HN_⟩
  obtain ⟨hb2, ty, co, hd2⟩ := HN_.out
  obtain ⟨g, hg1⟩ : ∃ g, w1.heap.size = g := ⟨_, rfl⟩
  have hg : n0 ≤ g := by have := HB1.out.size; omega
  rw [hg1] at hd2
  (try simp only [hg1])
  have HD := hid hd2
  have HP := hid (HP1.out.below hb2)
  have HB2 := hid (HB1.out.trans (hb2.mono HB1.out.size))
  clear hb2 hd2 HN_ cA cB cC hg1
  have HZ : Hid (Tx n0 w bs 0 w2 v) := hid ((Tx.start HR0.out).below h0 (HB2.out))
  have HT0 : Hid (Tx n0 w2 bs 0 w2 v) := hid (Tx.start HZ.out.row0)
  have h0b : n0 ≤ w2.heap.size := Nat.le_trans h0 HZ.out.bel.size
  have HG := hid (HG0.out.below (HZ.out.bel.mono hN))
  have fA := (HT0.out.kt _ _ _ HP.out (by decide) (by decide)).cell 1
  go_wp2_with (at_builtin; refine stopHere ?_)
  refine (constNameW oa hoa _).mono ?_
  rintro e w1_ ⟨s, rfl, hs, HB_⟩
  have HT1 : Hid (Tx n0 w2 bs (0) w1_ v) := hid (HT0.out.below h0b HB_.out)
  clear HB_ HT0
  go_wp2_with (at_builtin; refine stopHere ?_)
  intro _
  obtain ⟨ds_, hds_, hr_⟩ := HT1.out.row
  have HR_ := hid hr_
  have hz_ := Nat.le_trans h0b HT1.out.bel.size
  clear hr_
  refine wpList_app_t rfl _ _ HR_.out rfl rfl _ rfl 8 (by rw [ByteArray.size_append]; have e1 : (⟨#[99, 111, 110, 115, 116, 32]⟩ : ByteArray).size = 6 := rfl; omega) (by rw [List.length_append]; omega) hz_ ?_
  intro v2_ w2_ HF_
  have HT2 : Hid (Tx n0 w2 bs (0 + 8) w2_ v2_) := hid (HT1.out.trans hds_ HF_.out.tx)
  clear HF_ HR_ hds_ hz_ HT1
  go_wp2_with (at_builtin; refine stopHere ?_)
  obtain ⟨ds_, hds_, hr_⟩ := HT2.out.row
  have HR_ := hid hr_
  have hz_ := Nat.le_trans h0b HT2.out.bel.size
  clear hr_
  refine (gapW (HT2.out.kd _ _ _ HD.out) hg HR_.out hz_ (by rw [List.length_append]; omega)).mono ?_
  rintro e w3_ ⟨v3_, rfl, HF_⟩
  have HT3 : Hid (Tx n0 w2 bs (0 + 8 + 24) w3_ v3_) := hid (HT2.out.trans hds_ HF_.out)
  clear HF_ HR_ hds_ hz_ HT2
  go_wp2_with (at_builtin; refine stopHere ?_)
  intro _
  obtain ⟨ds_, hds_, hr_⟩ := HT3.out.row
  have HR_ := hid hr_
  have hz_ := Nat.le_trans h0b HT3.out.bel.size
  clear hr_
  refine wpList_app_t rfl _ _ HR_.out rfl rfl _ rfl 3 (by decide) (by rw [List.length_append]; omega) hz_ ?_
  intro v4_ w4_ HF_
  have HT4 : Hid (Tx n0 w2 bs (0 + 8 + 24 + 3) w4_ v4_) := hid (HT3.out.trans hds_ HF_.out.tx)
  clear HF_ HR_ hds_ hz_ HT3
  go_wp2_with (at_builtin; refine stopHere ?_)
  obtain ⟨ds_, hds_, hr_⟩ := HT4.out.row
  have HR_ := hid hr_
  have hz_ := Nat.le_trans h0b HT4.out.bel.size
  clear hr_
  refine (exprW hg hN 3 (by decide) _ _ _ (HG.out.below (HT4.out.bel.mono hN)) (HT4.out.kd _ _ _ HD.out) HR_.out hz_ (by rw [List.length_append, show exK 3 = 526 from rfl]; omega)).mono ?_
  rintro e w5_ ⟨v5_, rfl, HF_⟩
  have HT5 : Hid (Tx n0 w2 bs (0 + 8 + 24 + 3 + exK 3) w5_ v5_) := hid (HT4.out.trans hds_ HF_.out)
  clear HF_ HR_ hds_ hz_ HT4
  go_wp2_with (at_builtin; refine stopHere ?_)
  intro _
  obtain ⟨ds_, hds_, hr_⟩ := HT5.out.row
  have HR_ := hid hr_
  have hz_ := Nat.le_trans h0b HT5.out.bel.size
  clear hr_
  refine wpList_app_t rfl _ _ HR_.out rfl rfl _ rfl 2 (by decide) (by rw [List.length_append]; omega) hz_ ?_
  intro v6_ w6_ HF_
  have HT6 : Hid (Tx n0 w2 bs (0 + 8 + 24 + 3 + exK 3 + 2) w6_ v6_) := hid (HT5.out.trans hds_ HF_.out.tx)
  clear HF_ HR_ hds_ hz_ HT5
  have HQ_ : Hid (Tx n0 w bs (6500) w6_ v6_) := hid ((HZ.out.trans (ds := []) (Nat.le_refl _) (by rw [List.append_nil]; exact HT6.out)).mono (by omega))
  clear HT6
  go_wp2
  go_ret
  exact ⟨_, rfl, HQ_⟩
set_option maxRecDepth 100000 in
set_option maxHeartbeats 8000000 in
theorem appendAliasW (hN : N ≤ n0) (hgl : Gl N mg w) (hoa : oa < 18446744073709551616) (hob : ob < 18446744073709551616) (hoc : oc < 18446744073709551616) (hr : OwR rtB n0 w v bs) (h0 : n0 ≤ w.heap.size) (hl : bs.length ≤ 60000000000000) : Calls Tryz.prog 44 #[v, .agg #[.int .u8 (kd : Int), .int .u64 (oa : Int), .int .u64 (ob : Int), .int .u64 (oc : Int), .string os]] w fun e w' => ∃ v', e = .returned v' ∧ Hid (Tx n0 w bs 6500 w' v') := by
  have HR0 := hid hr
  obtain ⟨p, hp⟩ : ∃ p, w.heap.size = p := ⟨_, rfl⟩
  have k0 := Blk.new w [.int .u8 (kd : Int), .int .u64 (oa : Int), .int .u64 (ob : Int), .int .u64 (oc : Int), .string os] 85
  rw [hp] at k0
  have hb1 : Below w.heap.size w (w.alloc (.cells [.int .u8 (kd : Int), .int .u64 (oa : Int), .int .u64 (ob : Int), .int .u64 (oc : Int), .string os].toArray 85)) := nbel w _
  have HG0 := hid hgl
  clear hr hgl
  go_enter Tryz.func44, Tryz.ntmps44
  go_upto_region 1 with fail
  (try simp only [hp])
  generalize hw1 : w.alloc _ = w1 at k0 hb1 ⊢
  clear hw1
  have HP1 := hid k0
  have HB1 := hid hb1
  have cA := k0.cell 1
  have cB := k0.cell 2
  have cC := k0.cell 3
  clear k0 hb1 hp
  have hx3 : tyK 3 = 4999 := rfl
  go_wp2_with (at_builtin; refine stopHere ?_)
  refine (newDrawW ob oc (by omega) (by omega) w1).mono ?_
  rintro e w2 ⟨rfl, HN_⟩
  obtain ⟨hb2, ty, co, hd2⟩ := HN_.out
  obtain ⟨g, hg1⟩ : ∃ g, w1.heap.size = g := ⟨_, rfl⟩
  have hg : n0 ≤ g := by have := HB1.out.size; omega
  rw [hg1] at hd2
  (try simp only [hg1])
  have HD := hid hd2
  have HP := hid (HP1.out.below hb2)
  have HB2 := hid (HB1.out.trans (hb2.mono HB1.out.size))
  clear hb2 hd2 HN_ cA cB cC hg1
  have HZ : Hid (Tx n0 w bs 0 w2 v) := hid ((Tx.start HR0.out).below h0 (HB2.out))
  have HT0 : Hid (Tx n0 w2 bs 0 w2 v) := hid (Tx.start HZ.out.row0)
  have h0b : n0 ≤ w2.heap.size := Nat.le_trans h0 HZ.out.bel.size
  have HG := hid (HG0.out.below (HZ.out.bel.mono hN))
  have fA := (HT0.out.kt _ _ _ HP.out (by decide) (by decide)).cell 1
  go_wp2_with (at_builtin; refine stopHere ?_)
  refine (typeNameW oa hoa _).mono ?_
  rintro e w1_ ⟨s, rfl, hs, HB_⟩
  have HT1 : Hid (Tx n0 w2 bs (0) w1_ v) := hid (HT0.out.below h0b HB_.out)
  clear HB_ HT0
  go_wp2_with (at_builtin; refine stopHere ?_)
  intro _
  obtain ⟨ds_, hds_, hr_⟩ := HT1.out.row
  have HR_ := hid hr_
  have hz_ := Nat.le_trans h0b HT1.out.bel.size
  clear hr_
  refine wpList_app_t rfl _ _ HR_.out rfl rfl _ rfl 10 (by rw [ByteArray.size_append, ByteArray.size_append]; have e1 : (⟨#[116, 121, 112, 101, 32]⟩ : ByteArray).size = 5 := rfl; have e2 : (⟨#[32, 61]⟩ : ByteArray).size = 2 := rfl; omega) (by rw [List.length_append]; omega) hz_ ?_
  intro v2_ w2_ HF_
  have HT2 : Hid (Tx n0 w2 bs (0 + 10) w2_ v2_) := hid (HT1.out.trans hds_ HF_.out.tx)
  clear HF_ HR_ hds_ hz_ HT1
  go_wp2_with (at_builtin; refine stopHere ?_)
  obtain ⟨ds_, hds_, hr_⟩ := HT2.out.row
  have HR_ := hid hr_
  have hz_ := Nat.le_trans h0b HT2.out.bel.size
  clear hr_
  refine (gapW (HT2.out.kd _ _ _ HD.out) hg HR_.out hz_ (by rw [List.length_append]; omega)).mono ?_
  rintro e w3_ ⟨v3_, rfl, HF_⟩
  have HT3 : Hid (Tx n0 w2 bs (0 + 10 + 24) w3_ v3_) := hid (HT2.out.trans hds_ HF_.out)
  clear HF_ HR_ hds_ hz_ HT2
  go_wp2_with (at_builtin; refine stopHere ?_)
  obtain ⟨ds_, hds_, hr_⟩ := HT3.out.row
  have HR_ := hid hr_
  have hz_ := Nat.le_trans h0b HT3.out.bel.size
  clear hr_
  refine (typW hg hN 3 (by decide) _ _ _ (HG.out.below (HT3.out.bel.mono hN)) (HT3.out.kd _ _ _ HD.out) HR_.out hz_ (by rw [List.length_append, show tyK 3 = 4999 from rfl]; omega)).mono ?_
  rintro e w4_ ⟨v4_, rfl, HF_⟩
  have HT4 : Hid (Tx n0 w2 bs (0 + 10 + 24 + tyK 3) w4_ v4_) := hid (HT3.out.trans hds_ HF_.out)
  clear HF_ HR_ hds_ hz_ HT3
  go_wp2_with (at_builtin; refine stopHere ?_)
  obtain ⟨ds_, hds_, hr_⟩ := HT4.out.row
  have HR_ := hid hr_
  have hz_ := Nat.le_trans h0b HT4.out.bel.size
  clear hr_
  refine (gapW (HT4.out.kd _ _ _ HD.out) hg HR_.out hz_ (by rw [List.length_append]; omega)).mono ?_
  rintro e w5_ ⟨v5_, rfl, HF_⟩
  have HT5 : Hid (Tx n0 w2 bs (0 + 10 + 24 + tyK 3 + 24) w5_ v5_) := hid (HT4.out.trans hds_ HF_.out)
  clear HF_ HR_ hds_ hz_ HT4
  go_wp2_with (at_builtin; refine stopHere ?_)
  intro _
  obtain ⟨ds_, hds_, hr_⟩ := HT5.out.row
  have HR_ := hid hr_
  have hz_ := Nat.le_trans h0b HT5.out.bel.size
  clear hr_
  refine wpList_app_t rfl _ _ HR_.out rfl rfl _ rfl 2 (by decide) (by rw [List.length_append]; omega) hz_ ?_
  intro v6_ w6_ HF_
  have HT6 : Hid (Tx n0 w2 bs (0 + 10 + 24 + tyK 3 + 24 + 2) w6_ v6_) := hid (HT5.out.trans hds_ HF_.out.tx)
  clear HF_ HR_ hds_ hz_ HT5
  have HQ_ : Hid (Tx n0 w bs (6500) w6_ v6_) := hid ((HZ.out.trans (ds := []) (Nat.le_refl _) (by rw [List.append_nil]; exact HT6.out)).mono (by omega))
  clear HT6
  go_wp2
  go_ret
  exact ⟨_, rfl, HQ_⟩
set_option maxRecDepth 100000 in
set_option maxHeartbeats 8000000 in
theorem appendContainerW (hN : N ≤ n0) (hgl : Gl N mg w) (hoa : oa < 18446744073709551616) (hob : ob < 18446744073709551616) (hoc : oc < 18446744073709551616) (hr : OwR rtB n0 w v bs) (h0 : n0 ≤ w.heap.size) (hl : bs.length ≤ 60000000000000) : Calls Tryz.prog 45 #[v, .agg #[.int .u8 (kd : Int), .int .u64 (oa : Int), .int .u64 (ob : Int), .int .u64 (oc : Int), .string os]] w fun e w' => ∃ v', e = .returned v' ∧ Hid (Tx n0 w bs 6500 w' v') := by
  have HR0 := hid hr
  obtain ⟨p, hp⟩ : ∃ p, w.heap.size = p := ⟨_, rfl⟩
  have k0 := Blk.new w [.int .u8 (kd : Int), .int .u64 (oa : Int), .int .u64 (ob : Int), .int .u64 (oc : Int), .string os] 85
  rw [hp] at k0
  have hb1 : Below w.heap.size w (w.alloc (.cells [.int .u8 (kd : Int), .int .u64 (oa : Int), .int .u64 (ob : Int), .int .u64 (oc : Int), .string os].toArray 85)) := nbel w _
  have HG0 := hid hgl
  clear hr hgl
  go_enter Tryz.func45, Tryz.ntmps45
  go_upto_region 1 with fail
  (try simp only [hp])
  generalize hw1 : w.alloc _ = w1 at k0 hb1 ⊢
  clear hw1
  have HP1 := hid k0
  have HB1 := hid hb1
  have cA := k0.cell 1
  have cB := k0.cell 2
  have cC := k0.cell 3
  clear k0 hb1 hp
  have hx3 : tyK 2 = 1223 := rfl
  obtain ⟨q6, e6_⟩ : ∃ q : Nat, (ob : Int) / 6 = (q : Int) ∧ q ≤ ob := ⟨ob / 6, by omega, by omega⟩
  obtain ⟨e6_, h6_⟩ := e6_
  obtain ⟨m6, e7_, h7_⟩ : ∃ q : Nat, (ob : Int) % 6 = (q : Int) ∧ q ≤ 5 := ⟨ob % 6, by omega, by omega⟩
  go_wp2_with (at_builtin; refine stopHere ?_)
  refine (newDrawW q6 oc (by omega) (by omega) w1).mono ?_
  rintro e w2 ⟨rfl, HN_⟩
  obtain ⟨hb2, ty, co, hd2⟩ := HN_.out
  obtain ⟨g, hg1⟩ : ∃ g, w1.heap.size = g := ⟨_, rfl⟩
  have hg : n0 ≤ g := by have := HB1.out.size; omega
  rw [hg1] at hd2
  (try simp only [hg1])
  have HD := hid hd2
  have HP := hid (HP1.out.below hb2)
  have HB2 := hid (HB1.out.trans (hb2.mono HB1.out.size))
  clear hb2 hd2 HN_ cA cB cC hg1
  have HZ : Hid (Tx n0 w bs 0 w2 v) := hid ((Tx.start HR0.out).below h0 (HB2.out))
  have HT0 : Hid (Tx n0 w2 bs 0 w2 v) := hid (Tx.start HZ.out.row0)
  have h0b : n0 ≤ w2.heap.size := Nat.le_trans h0 HZ.out.bel.size
  have HG := hid (HG0.out.below (HZ.out.bel.mono hN))
  have fA := (HT0.out.kt _ _ _ HP.out (by decide) (by decide)).cell 1
  go_wp2_with (at_builtin; refine stopHere ?_)
  refine (typeNameW oa hoa _).mono ?_
  rintro e w1_ ⟨s, rfl, hs, HB_⟩
  have HT1 : Hid (Tx n0 w2 bs (0) w1_ v) := hid (HT0.out.below h0b HB_.out)
  clear HB_ HT0
  go_wp2_with (at_builtin; refine stopHere ?_)
  intro _
  obtain ⟨ds_, hds_, hr_⟩ := HT1.out.row
  have HR_ := hid hr_
  have hz_ := Nat.le_trans h0b HT1.out.bel.size
  clear hr_
  refine wpList_app_t rfl _ _ HR_.out rfl rfl _ rfl 15 (by rw [ByteArray.size_append, ByteArray.size_append]; have e1 : (⟨#[99, 111, 110, 116, 97, 105, 110, 101, 114, 32]⟩ : ByteArray).size = 10 := rfl; have e2 : (⟨#[32, 123]⟩ : ByteArray).size = 2 := rfl; omega) (by rw [List.length_append]; omega) hz_ ?_
  intro v2_ w2_ HF_
  have HT2 : Hid (Tx n0 w2 bs (0 + 15) w2_ v2_) := hid (HT1.out.trans hds_ HF_.out.tx)
  clear HF_ HR_ hds_ hz_ HT1
  go_upto_region 4 with fail
  go_loopw [0, 6] (fun s t wr => ∃ (i : Nat) (b : Value), s = b ∧ t = .int .u64 (i : Int) ∧ i ≤ m6 ∧ Hid (Tx n0 w2 bs (0 + 15 + i * 1251) wr b)) (fun _ t _ => m6 - (intOf t).toNat)
  case atStart => exact ⟨0, _, rfl, by go_num, by omega, hid (HT2.out.mono (by omega))⟩
  case round =>
  obtain ⟨i, b, rfl, rfl, hi, HL⟩ := hrel
  clear HT2
  have fB := (HL.out.kt _ _ _ HP.out (by decide) (by decide)).cell 2
  by_cases hin : i < m6
  rotate_left
  · have d1_ : decide ((i : Int) < (m6 : Int)) = false := decide_eq_false (by omega)
    go_wp2_with (at_builtin; refine stopHere ?_)
    intro _
    obtain ⟨ds_, hds_, hr_⟩ := HL.out.row
    have HR_ := hid hr_
    have hz_ := Nat.le_trans h0b HL.out.bel.size
    clear hr_
    refine wpList_app_t rfl _ _ HR_.out rfl rfl _ rfl 2 (by decide) (by rw [List.length_append]; omega) hz_ ?_
    intro v3_ w3_ HF_
    have HT3 : Hid (Tx n0 w2 bs (0 + 15 + i * 1251 + 2) w3_ v3_) := hid (HL.out.trans hds_ HF_.out.tx)
    clear HF_ HR_ hds_ hz_ HL
    have HQ_ : Hid (Tx n0 w bs (6500) w3_ v3_) := hid ((HZ.out.trans (ds := []) (Nat.le_refl _) (by rw [List.append_nil]; exact HT3.out)).mono (by omega))
    clear HT3
    go_wp2
    go_ret
    exact ⟨_, rfl, HQ_⟩
  have d1_ : decide ((i : Int) < (m6 : Int)) = true := decide_eq_true (by omega)
  have ew_ : IntKind.u64.wrap ((i : Int) + 1) = ((i + 1 : Nat) : Int) := by rw [IntKind.wrap_u64]; omega
  obtain ⟨m, em, hm⟩ : ∃ m : Nat, IntKind.u64.wrap (97 + (i : Int)) = (m : Int) ∧ m < 256 := ⟨97 + i, by rw [IntKind.wrap_u64]; omega, by omega⟩
  obtain ⟨y8, ey⟩ : ∃ y : UInt8, IntKind.u8.wrap (m : Int) = (y.toNat : Int) := ⟨UInt8.ofNat m, by rw [IntKind.wrap_u8, UInt8.toNat_ofNat']; omega⟩
  go_wp2_with (at_builtin; refine stopHere ?_)
  have HD_ := hid (HL.out.kd _ _ _ HD.out)
  refine (belowW HD_.out 64 (by decide) (by omega)).mono ?_
  rintro e w3_ ⟨q, rfl, hq, HU_⟩
  have HT3 : Hid (Tx n0 w2 bs (0 + 15 + i * 1251) w3_ u0) := hid (HL.out.drawn h0b hg HD_.out HU_.out)
  clear HU_ HD_ HL
  by_cases hq0 : q = 0
  · subst hq0
    go_wp2_with (at_builtin; refine stopHere ?_)
    have HD_ := hid (HT3.out.kd _ _ _ HD.out)
    refine (belowW HD_.out 5 (by decide) (by omega)).mono ?_
    rintro e w4_ ⟨r5, rfl, hr5, HU_⟩
    have HT4 : Hid (Tx n0 w2 bs (0 + 15 + i * 1251) w4_ u0) := hid (HT3.out.drawn h0b hg HD_.out HU_.out)
    clear HU_ HD_ HT3
    obtain ⟨m2, em2, hm2⟩ : ∃ m : Nat, IntKind.u64.wrap (97 + (r5 : Int)) = (m : Int) ∧ m < 256 := ⟨97 + r5, by rw [IntKind.wrap_u64]; omega, by omega⟩
    obtain ⟨y9, ey2⟩ : ∃ y : UInt8, IntKind.u8.wrap (m2 : Int) = (y.toNat : Int) := ⟨UInt8.ofNat m2, by rw [IntKind.wrap_u8, UInt8.toNat_ofNat']; omega⟩
    go_wp2_with (at_builtin; refine stopHere ?_)
    obtain ⟨ds_, hds_, hr_⟩ := HT4.out.row
    have HR_ := hid hr_
    have hz_ := Nat.le_trans h0b HT4.out.bel.size
    clear hr_
    refine (gapW (HT4.out.kd _ _ _ HD.out) hg HR_.out hz_ (by rw [List.length_append]; omega)).mono ?_
    rintro e w5_ ⟨v5_, rfl, HF_⟩
    have HT5 : Hid (Tx n0 w2 bs (0 + 15 + i * 1251 + 24) w5_ v5_) := hid (HT4.out.trans hds_ HF_.out)
    clear HF_ HR_ hds_ hz_ HT4
    go_wp2_with (at_builtin; refine stopHere ?_)
    intro _
    obtain ⟨ds_, hds_, hr_⟩ := HT5.out.row
    have HR_ := hid hr_
    have hz_ := Nat.le_trans h0b HT5.out.bel.size
    clear hr_
    refine wpList_app_n rfl _ _ [y9, 58, 32] HR_.out rfl rfl _ rfl 3 rfl rfl (by rw [List.length_append]; omega) hz_ ?_
    intro v6_ w6_ HF_
    have HT6 : Hid (Tx n0 w2 bs (0 + 15 + i * 1251 + 24 + 3) w6_ v6_) := hid (HT5.out.trans hds_ HF_.out.tx)
    clear HF_ HR_ hds_ hz_ HT5
    go_wp2_with (at_builtin; refine stopHere ?_)
    obtain ⟨ds_, hds_, hr_⟩ := HT6.out.row
    have HR_ := hid hr_
    have hz_ := Nat.le_trans h0b HT6.out.bel.size
    clear hr_
    refine (typW hg hN 2 (by decide) _ _ _ (HG.out.below (HT6.out.bel.mono hN)) (HT6.out.kd _ _ _ HD.out) HR_.out hz_ (by rw [List.length_append, show tyK 2 = 1223 from rfl]; omega)).mono ?_
    rintro e w7_ ⟨v7_, rfl, HF_⟩
    have HT7 : Hid (Tx n0 w2 bs (0 + 15 + i * 1251 + 24 + 3 + tyK 2) w7_ v7_) := hid (HT6.out.trans hds_ HF_.out)
    clear HF_ HR_ hds_ hz_ HT6
    go_wp2_with (at_builtin; refine stopHere ?_)
    intro _
    obtain ⟨ds_, hds_, hr_⟩ := HT7.out.row
    have HR_ := hid hr_
    have hz_ := Nat.le_trans h0b HT7.out.bel.size
    clear hr_
    refine wpList_app_n rfl _ _ [59] HR_.out rfl rfl _ rfl 1 rfl rfl (by rw [List.length_append]; omega) hz_ ?_
    intro v8_ w8_ HF_
    have HT8 : Hid (Tx n0 w2 bs (0 + 15 + i * 1251 + 24 + 3 + tyK 2 + 1) w8_ v8_) := hid (HT7.out.trans hds_ HF_.out.tx)
    clear HF_ HR_ hds_ hz_ HT7
    have HQ_ : Hid (Tx n0 w2 bs (0 + 15 + (i + 1) * 1251) w8_ v8_) := hid (HT8.out.mono (by omega))
    clear HT8
    go_wp2
    exact ⟨⟨i + 1, _, rfl, by go_num, by omega, HQ_⟩, by simp [intOf]; omega⟩
  · have dq0 : ((q : Int) == 0) = false := by simp; omega
    go_wp2_with (at_builtin; refine stopHere ?_)
    obtain ⟨ds_, hds_, hr_⟩ := HT3.out.row
    have HR_ := hid hr_
    have hz_ := Nat.le_trans h0b HT3.out.bel.size
    clear hr_
    refine (gapW (HT3.out.kd _ _ _ HD.out) hg HR_.out hz_ (by rw [List.length_append]; omega)).mono ?_
    rintro e w4_ ⟨v4_, rfl, HF_⟩
    have HT4 : Hid (Tx n0 w2 bs (0 + 15 + i * 1251 + 24) w4_ v4_) := hid (HT3.out.trans hds_ HF_.out)
    clear HF_ HR_ hds_ hz_ HT3
    go_wp2_with (at_builtin; refine stopHere ?_)
    intro _
    obtain ⟨ds_, hds_, hr_⟩ := HT4.out.row
    have HR_ := hid hr_
    have hz_ := Nat.le_trans h0b HT4.out.bel.size
    clear hr_
    refine wpList_app_n rfl _ _ [y8, 58, 32] HR_.out rfl rfl _ rfl 3 rfl rfl (by rw [List.length_append]; omega) hz_ ?_
    intro v5_ w5_ HF_
    have HT5 : Hid (Tx n0 w2 bs (0 + 15 + i * 1251 + 24 + 3) w5_ v5_) := hid (HT4.out.trans hds_ HF_.out.tx)
    clear HF_ HR_ hds_ hz_ HT4
    go_wp2_with (at_builtin; refine stopHere ?_)
    obtain ⟨ds_, hds_, hr_⟩ := HT5.out.row
    have HR_ := hid hr_
    have hz_ := Nat.le_trans h0b HT5.out.bel.size
    clear hr_
    refine (typW hg hN 2 (by decide) _ _ _ (HG.out.below (HT5.out.bel.mono hN)) (HT5.out.kd _ _ _ HD.out) HR_.out hz_ (by rw [List.length_append, show tyK 2 = 1223 from rfl]; omega)).mono ?_
    rintro e w6_ ⟨v6_, rfl, HF_⟩
    have HT6 : Hid (Tx n0 w2 bs (0 + 15 + i * 1251 + 24 + 3 + tyK 2) w6_ v6_) := hid (HT5.out.trans hds_ HF_.out)
    clear HF_ HR_ hds_ hz_ HT5
    go_wp2_with (at_builtin; refine stopHere ?_)
    intro _
    obtain ⟨ds_, hds_, hr_⟩ := HT6.out.row
    have HR_ := hid hr_
    have hz_ := Nat.le_trans h0b HT6.out.bel.size
    clear hr_
    refine wpList_app_n rfl _ _ [59] HR_.out rfl rfl _ rfl 1 rfl rfl (by rw [List.length_append]; omega) hz_ ?_
    intro v7_ w7_ HF_
    have HT7 : Hid (Tx n0 w2 bs (0 + 15 + i * 1251 + 24 + 3 + tyK 2 + 1) w7_ v7_) := hid (HT6.out.trans hds_ HF_.out.tx)
    clear HF_ HR_ hds_ hz_ HT6
    have HQ_ : Hid (Tx n0 w2 bs (0 + 15 + (i + 1) * 1251) w7_ v7_) := hid (HT7.out.mono (by omega))
    clear HT7
    go_wp2
    exact ⟨⟨i + 1, _, rfl, by go_num, by omega, HQ_⟩, by simp [intOf]; omega⟩
end
end Go.Proofs.Qxb6500883aGreatDoor
