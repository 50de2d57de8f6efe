/- Texts of scripts: unions (written by tools/mk_tx.py). -/
import Derived.Test.Qxb6500883aGreatDoorScTe
namespace Go.Proofs.Qxb6500883aGreatDoor
open Go.RowKit
set_option linter.unusedSimpArgs false
set_option linter.unusedVariables false
section
variable {w w' : World} {n0 : Nat} {v v' : Value} {bs : List UInt8} {g ty co N mg kd oa ob oc : Nat} {os : ByteArray}
set_option maxRecDepth 100000 in
set_option maxHeartbeats 8000000 in
theorem appendUnionW (hN : N ≤ n0) (hgl : Gl N mg w) (hoa : oa < 18446744073709551616) (hob : ob < 18446744073709551616) (hoc : oc < 18446744073709551616) (hr : OwR rtB n0 w v bs) (h0 : n0 ≤ w.heap.size) (hl : bs.length ≤ 60000000000000) : Calls Tryz.prog 46 #[v, .agg #[.int .u8 (kd : Int), .int .u64 (oa : Int), .int .u64 (ob : Int), .int .u64 (oc : Int), .string os]] w fun e w' => ∃ v', e = .returned v' ∧ Hid (Tx n0 w bs 6500 w' v') := by
  have HR0 := hid hr
  obtain ⟨p, hp⟩ : ∃ p, w.heap.size = p := ⟨_, rfl⟩
  have k0 := Blk.new w [.int .u8 (kd : Int), .int .u64 (oa : Int), .int .u64 (ob : Int), .int .u64 (oc : Int), .string os] 85
  rw [hp] at k0
  have hb1 : Below w.heap.size w (w.alloc (.cells [.int .u8 (kd : Int), .int .u64 (oa : Int), .int .u64 (ob : Int), .int .u64 (oc : Int), .string os].toArray 85)) := nbel w _
  have HG0 := hid hgl
  clear hr hgl
  go_enter Tryz.func46, Tryz.ntmps46
  go_upto_region 1 with fail
  (try simp only [hp])
  generalize hw1 : w.alloc _ = w1 at k0 hb1 ⊢
  clear hw1
  have HP1 := hid k0
  have HB1 := hid hb1
  have cA := k0.cell 1
  have cB := k0.cell 2
  have cC := k0.cell 3
  clear k0 hb1 hp
  obtain ⟨m, e6_, h6_⟩ : ∃ q : Nat, (ob : Int) % 132 = (q : Int) ∧ q ≤ 131 := ⟨ob % 132, by omega, by omega⟩
  have HZ : Hid (Tx n0 w bs 0 w1 v) := hid ((Tx.start HR0.out).below h0 (HB1.out))
  have HT0 : Hid (Tx n0 w1 bs 0 w1 v) := hid (Tx.start HZ.out.row0)
  have h0b : n0 ≤ w1.heap.size := Nat.le_trans h0 HZ.out.bel.size
  have HP := HP1
  go_wp2_with (at_builtin; refine stopHere ?_)
  refine (typeNameW oa hoa _).mono ?_
  rintro e w1_ ⟨s, rfl, hs, HB_⟩
  have HT1 : Hid (Tx n0 w1 bs (0) w1_ v) := hid (HT0.out.below h0b HB_.out)
  clear HB_ HT0
  go_wp2_with (at_builtin; refine stopHere ?_)
  intro _
  obtain ⟨ds_, hds_, hr_⟩ := HT1.out.row
  have HR_ := hid hr_
  have hz_ := Nat.le_trans h0b HT1.out.bel.size
  clear hr_
  refine wpList_app_t rfl _ _ HR_.out rfl rfl _ rfl 17 (by rw [ByteArray.size_append, ByteArray.size_append]; have e1 : (⟨#[116, 121, 112, 101, 32]⟩ : ByteArray).size = 5 := rfl; have e2 : (⟨#[32, 61, 32, 85, 110, 105, 111, 110, 91]⟩ : ByteArray).size = 9 := rfl; omega) (by rw [List.length_append]; omega) hz_ ?_
  intro v2_ w2_ HF_
  have HT2 : Hid (Tx n0 w1 bs (0 + 17) w2_ v2_) := hid (HT1.out.trans hds_ HF_.out.tx)
  clear HF_ HR_ hds_ hz_ HT1
  have HG := hid (HG0.out.below (HZ.out.bel.mono hN))
  obtain ⟨x1, ex1⟩ : ∃ x : Int, bits BinOp.and IntKind.u64 (oc : Int) 1 = x := ⟨_, rfl⟩
  obtain ⟨x2, ex2⟩ : ∃ x : Int, bits BinOp.and IntKind.u64 (oc : Int) 2 = x := ⟨_, rfl⟩
  obtain ⟨y1, ey1⟩ : ∃ q : Nat, (oc : Int) / 256 = (q : Int) := ⟨oc / 256, by omega⟩
  obtain ⟨y2, ey2⟩ : ∃ q : Nat, (oc : Int) / 4 = (q : Int) := ⟨oc / 4, by omega⟩
  go_upto_region 4 with fail
  go_loopw [0, 6] (fun s t wr => ∃ (i : Nat) (b : Value), s = b ∧ t = .int .u64 (i : Int) ∧ i ≤ m ∧ Hid (Tx n0 w1 bs (0 + 17 + i * 9) wr b)) (fun _ t _ => m - (intOf t).toNat)
  case atStart => exact ⟨0, _, rfl, by go_num, by omega, hid (HT2.out.mono (by omega))⟩
  case round =>
  obtain ⟨i, b, rfl, rfl, hi, HL⟩ := hrel
  clear HT2
  have fC := (HL.out.kt _ _ _ HP.out (by decide) (by decide)).cell 3
  by_cases hin : i < m
  rotate_left
  · have d1_ : decide ((i : Int) < (m : Int)) = false := decide_eq_false (by omega)
    go_wp2_with (at_builtin; refine stopHere ?_)
    intro _
    obtain ⟨ds_, hds_, hr_⟩ := HL.out.row
    have HR_ := hid hr_
    have hz_ := Nat.le_trans h0b HL.out.bel.size
    clear hr_
    refine wpList_app_t rfl _ _ HR_.out rfl rfl _ rfl 3 (by decide) (by rw [List.length_append]; omega) hz_ ?_
    intro v3_ w3_ HF_
    have HT3 : Hid (Tx n0 w1 bs (0 + 17 + i * 9 + 3) w3_ v3_) := hid (HL.out.trans hds_ HF_.out.tx)
    clear HF_ HR_ hds_ hz_ HL
    have HQ_ : Hid (Tx n0 w bs (6500) w3_ v3_) := hid ((HZ.out.trans (ds := []) (Nat.le_refl _) (by rw [List.append_nil]; exact HT3.out)).mono (by omega))
    clear HT3
    go_wp2
    go_ret
    exact ⟨_, rfl, HQ_⟩
  have d1_ : decide ((i : Int) < (m : Int)) = true := decide_eq_true (by omega)
  have ew_ : IntKind.u64.wrap ((i : Int) + 1) = ((i + 1 : Nat) : Int) := by rw [IntKind.wrap_u64]; omega
  obtain ⟨z3, ez3⟩ : ∃ z : Nat, (y1 : Int).tmod (m : Int) = (z : Int) := ⟨y1 % m, by rw [Int.tmod_eq_emod_of_nonneg (by omega)]; exact (Int.natCast_emod y1 m).symm⟩
  obtain ⟨y3, ey3⟩ : ∃ q : Nat, IntKind.u64.wrap ((i : Int) + (y2 : Int)) = (q : Int) := ⟨(IntKind.u64.wrap ((i : Int) + (y2 : Int))).toNat, by rw [IntKind.wrap_u64]; omega⟩
  obtain ⟨y4, ey4, hy4⟩ : ∃ q : Nat, (y3 : Int) % 8 = (q : Int) ∧ q < 8 := ⟨y3 % 8, by omega, by omega⟩
  have ey5 : (y3 : Int).tmod 8 = (y4 : Int) := by rw [Int.tmod_eq_emod_of_nonneg (by omega)]; exact ey4
  by_cases hi0 : i = 0
  · have hi1_ : ¬ 0 < i := by omega
    have d2_ : decide ((0 : Int) < (i : Int)) = false := decide_eq_false (by omega)
    have d3_ : ((i : Int) == 0) = true := by simp; omega
    clear hi0
    by_cases hx1 : x1 = 0
    · have dx1 : (x1 != 0) = false := by simp; omega
      clear hx1
      by_cases hx2 : x2 = 0
      · have dx2 : (x2 != 0) = false := by simp; omega
        clear hx2
        obtain ⟨gb, go, gc, hS0⟩ := (HG.out.below (HL.out.bel.mono hN)).ba
        go_upto_region 8 with fail
        have HS_ : Hid (SRow N 0 baL (wr.drew) gb go gc ∧ (wr.drew).cell? ⟨p, 3, none⟩ = some (.int .u64 (oc : Int))) := hid ⟨⟨hS0.lt, hS0.c, hS0.row⟩, (HL.out.kt _ _ _ HP.out (by decide) (by decide)).cell 3⟩
        have HT3 : Hid (Tx n0 w1 bs (0 + 17 + i * 9) wr.drew u0) := hid (HL.out.below h0b (Drew.below ⟨1, rfl⟩ _))
        clear hS0 HL
        obtain ⟨sb, hsb, hsz⟩ : ∃ s, baL[y4]? = some s ∧ s.size ≤ 7 := ⟨_, List.getElem?_eq_getElem (show y4 < baL.length from hy4), baL_sz _ (List.getElem_mem _)⟩
        have i1 : (y4 : Int) < 8 := by omega
        refine wp_region_heavy (fun wz => SRow N 0 baL wz gb go gc ∧ wz.cell? ⟨p, 3, none⟩ = some (.int .u64 (oc : Int))) 14 [0, 1, 2, 3, 4, 5, 6, 7, 8, 9, 10, 11, 12] [13] rfl (by kernel_rfl) (by kernel_rfl) (fun d _ _ _ _ h => by cases d <;> exact h) HS_.out ?_
        apply Exists.intro
        refine ⟨?_, ?_⟩
        · intro W hW
          have q1 : ∀ z, (W z).cell? ⟨0, 0, none⟩ = some (.slice (some ⟨gb, go, none⟩) 8 gc) := fun z => (hW z).1.c
          have q2 : ∀ z, (W z).cell? ⟨gb, go + y4, none⟩ = some (.string sb) := fun z => (hW z).1.row y4 sb hsb
          have q3 : ∀ z, (W z).cell? ⟨p, 3, none⟩ = some (.int .u64 (oc : Int)) := fun z => (hW z).2
          clear hW
          simp only [List.take, opsAt, List.drop, List.cons_append, List.nil_append]
          repeat (go_big_quiet_step (fail))
          exact rfl
        simp only [List.take, List.drop, opsAt, List.cons_append, List.nil_append, wpHv]
        generalize wr.drew = w3_ at HS_ HT3 ⊢
        obtain ⟨ds_, hds_, hr_⟩ := HT3.out.row
        have HR_ := hid hr_
        have hz_ := Nat.le_trans h0b HT3.out.bel.size
        clear hr_
        refine wpList_app_t rfl _ _ HR_.out rfl rfl _ rfl 7 hsz (by rw [List.length_append]; omega) hz_ ?_
        intro v4_ w4_ HF_
        have HS3_ : Hid (SRow N 0 baL w4_ gb go gc ∧ w4_.cell? ⟨p, 3, none⟩ = some (.int .u64 (oc : Int))) := hid ⟨HS_.out.1.below (by have := HG.out.n6; omega) (HF_.out.bel.mono hN), (HF_.out.kt _ _ _ (HT3.out.kt _ _ _ HP.out (by decide) (by decide)) (by decide)).cell 3⟩
        have HT4 : Hid (Tx n0 w1 bs (0 + 17 + i * 9 + 7) w4_ v4_) := hid (HT3.out.trans hds_ HF_.out.tx)
        clear HF_ HR_ hds_ hz_ HT3
        clear HS_
        refine ⟨HS3_.out, ?_⟩
        simp only [QN]
        clear HS3_
        have HQ_ : Hid (Tx n0 w1 bs (0 + 17 + (i + 1) * 9) w4_ v4_) := hid (HT4.out.mono (by omega))
        clear HT4
        go_wp2
        exact ⟨⟨i + 1, _, rfl, by go_num, by omega, HQ_⟩, by simp [intOf]; omega⟩
      · have dx2 : (x2 != 0) = true := by simp; omega
        by_cases hzi : i = z3
        · have dz_ : ((i : Int) == (z3 : Int)) = true := by simp; omega
          clear hzi
          go_wp2_with (at_builtin; refine stopHere ?_)
          intro _
          obtain ⟨ds_, hds_, hr_⟩ := HL.out.row
          have HR_ := hid hr_
          have hz_ := Nat.le_trans h0b HL.out.bel.size
          clear hr_
          refine wpList_app_t rfl _ _ HR_.out rfl rfl _ rfl 4 (by decide) (by rw [List.length_append]; omega) hz_ ?_
          intro v3_ w3_ HF_
          have HT3 : Hid (Tx n0 w1 bs (0 + 17 + i * 9 + 4) w3_ v3_) := hid (HL.out.trans hds_ HF_.out.tx)
          clear HF_ HR_ hds_ hz_ HL
          have HQ_ : Hid (Tx n0 w1 bs (0 + 17 + (i + 1) * 9) w3_ v3_) := hid (HT3.out.mono (by omega))
          clear HT3
          go_wp2
          exact ⟨⟨i + 1, _, rfl, by go_num, by omega, HQ_⟩, by simp [intOf]; omega⟩
        · have dz_ : ((i : Int) == (z3 : Int)) = false := by simp; omega
          obtain ⟨gb, go, gc, hS0⟩ := (HG.out.below (HL.out.bel.mono hN)).ba
          go_upto_region 8 with fail
          have HS_ : Hid (SRow N 0 baL (wr.drew) gb go gc ∧ (wr.drew).cell? ⟨p, 3, none⟩ = some (.int .u64 (oc : Int))) := hid ⟨⟨hS0.lt, hS0.c, hS0.row⟩, (HL.out.kt _ _ _ HP.out (by decide) (by decide)).cell 3⟩
          have HT3 : Hid (Tx n0 w1 bs (0 + 17 + i * 9) wr.drew u0) := hid (HL.out.below h0b (Drew.below ⟨1, rfl⟩ _))
          clear hS0 HL
          obtain ⟨sb, hsb, hsz⟩ : ∃ s, baL[y4]? = some s ∧ s.size ≤ 7 := ⟨_, List.getElem?_eq_getElem (show y4 < baL.length from hy4), baL_sz _ (List.getElem_mem _)⟩
          have i1 : (y4 : Int) < 8 := by omega
          refine wp_region_heavy (fun wz => SRow N 0 baL wz gb go gc ∧ wz.cell? ⟨p, 3, none⟩ = some (.int .u64 (oc : Int))) 14 [0, 1, 2, 3, 4, 5, 6, 7, 8, 9, 10, 11, 12] [13] rfl (by kernel_rfl) (by kernel_rfl) (fun d _ _ _ _ h => by cases d <;> exact h) HS_.out ?_
          apply Exists.intro
          refine ⟨?_, ?_⟩
          · intro W hW
            have q1 : ∀ z, (W z).cell? ⟨0, 0, none⟩ = some (.slice (some ⟨gb, go, none⟩) 8 gc) := fun z => (hW z).1.c
            have q2 : ∀ z, (W z).cell? ⟨gb, go + y4, none⟩ = some (.string sb) := fun z => (hW z).1.row y4 sb hsb
            have q3 : ∀ z, (W z).cell? ⟨p, 3, none⟩ = some (.int .u64 (oc : Int)) := fun z => (hW z).2
            clear hW
            simp only [List.take, opsAt, List.drop, List.cons_append, List.nil_append]
            repeat (go_big_quiet_step (fail))
            exact rfl
          simp only [List.take, List.drop, opsAt, List.cons_append, List.nil_append, wpHv]
          generalize wr.drew = w3_ at HS_ HT3 ⊢
          obtain ⟨ds_, hds_, hr_⟩ := HT3.out.row
          have HR_ := hid hr_
          have hz_ := Nat.le_trans h0b HT3.out.bel.size
          clear hr_
          refine wpList_app_t rfl _ _ HR_.out rfl rfl _ rfl 7 hsz (by rw [List.length_append]; omega) hz_ ?_
          intro v4_ w4_ HF_
          have HS3_ : Hid (SRow N 0 baL w4_ gb go gc ∧ w4_.cell? ⟨p, 3, none⟩ = some (.int .u64 (oc : Int))) := hid ⟨HS_.out.1.below (by have := HG.out.n6; omega) (HF_.out.bel.mono hN), (HF_.out.kt _ _ _ (HT3.out.kt _ _ _ HP.out (by decide) (by decide)) (by decide)).cell 3⟩
          have HT4 : Hid (Tx n0 w1 bs (0 + 17 + i * 9 + 7) w4_ v4_) := hid (HT3.out.trans hds_ HF_.out.tx)
          clear HF_ HR_ hds_ hz_ HT3
          clear HS_
          refine ⟨HS3_.out, ?_⟩
          simp only [QN]
          clear HS3_
          have HQ_ : Hid (Tx n0 w1 bs (0 + 17 + (i + 1) * 9) w4_ v4_) := hid (HT4.out.mono (by omega))
          clear HT4
          go_wp2
          exact ⟨⟨i + 1, _, rfl, by go_num, by omega, HQ_⟩, by simp [intOf]; omega⟩
    · have dx1 : (x1 != 0) = true := by simp; omega
      go_wp2_with (at_builtin; refine stopHere ?_)
      intro _
      obtain ⟨ds_, hds_, hr_⟩ := HL.out.row
      have HR_ := hid hr_
      have hz_ := Nat.le_trans h0b HL.out.bel.size
      clear hr_
      refine wpList_app_t rfl _ _ HR_.out rfl rfl _ rfl 4 (by decide) (by rw [List.length_append]; omega) hz_ ?_
      intro v3_ w3_ HF_
      have HT3 : Hid (Tx n0 w1 bs (0 + 17 + i * 9 + 4) w3_ v3_) := hid (HL.out.trans hds_ HF_.out.tx)
      clear HF_ HR_ hds_ hz_ HL
      have HQ_ : Hid (Tx n0 w1 bs (0 + 17 + (i + 1) * 9) w3_ v3_) := hid (HT3.out.mono (by omega))
      clear HT3
      go_wp2
      exact ⟨⟨i + 1, _, rfl, by go_num, by omega, HQ_⟩, by simp [intOf]; omega⟩
  · have hi1_ : 0 < i := by omega
    have d2_ : decide ((0 : Int) < (i : Int)) = true := decide_eq_true (by omega)
    have d3_ : ((i : Int) == 0) = false := by simp; omega
    go_wp2_with (at_builtin; refine stopHere ?_)
    intro _
    obtain ⟨ds_, hds_, hr_⟩ := HL.out.row
    have HR_ := hid hr_
    have hz_ := Nat.le_trans h0b HL.out.bel.size
    clear hr_
    refine wpList_app_t rfl _ _ HR_.out rfl rfl _ rfl 2 (by decide) (by rw [List.length_append]; omega) hz_ ?_
    intro v3_ w3_ HF_
    have HT3 : Hid (Tx n0 w1 bs (0 + 17 + i * 9 + 2) w3_ v3_) := hid (HL.out.trans hds_ HF_.out.tx)
    clear HF_ HR_ hds_ hz_ HL
    have fC := (HT3.out.kt _ _ _ HP.out (by decide) (by decide)).cell 3
    by_cases hx2 : x2 = 0
    · have dx2 : (x2 != 0) = false := by simp; omega
      clear hx2
      obtain ⟨gb, go, gc, hS0⟩ := (HG.out.below (HT3.out.bel.mono hN)).ba
      go_upto_region 8 with fail
      have HS_ : Hid (SRow N 0 baL (w3_.drew) gb go gc ∧ (w3_.drew).cell? ⟨p, 3, none⟩ = some (.int .u64 (oc : Int))) := hid ⟨⟨hS0.lt, hS0.c, hS0.row⟩, (HT3.out.kt _ _ _ HP.out (by decide) (by decide)).cell 3⟩
      have HT4 : Hid (Tx n0 w1 bs (0 + 17 + i * 9 + 2) w3_.drew v3_) := hid (HT3.out.below h0b (Drew.below ⟨1, rfl⟩ _))
      clear hS0 HT3
      obtain ⟨sb, hsb, hsz⟩ : ∃ s, baL[y4]? = some s ∧ s.size ≤ 7 := ⟨_, List.getElem?_eq_getElem (show y4 < baL.length from hy4), baL_sz _ (List.getElem_mem _)⟩
      have i1 : (y4 : Int) < 8 := by omega
      refine wp_region_heavy (fun wz => SRow N 0 baL wz gb go gc ∧ wz.cell? ⟨p, 3, none⟩ = some (.int .u64 (oc : Int))) 14 [0, 1, 2, 3, 4, 5, 6, 7, 8, 9, 10, 11, 12] [13] rfl (by kernel_rfl) (by kernel_rfl) (fun d _ _ _ _ h => by cases d <;> exact h) HS_.out ?_
      apply Exists.intro
      refine ⟨?_, ?_⟩
      · intro W hW
        have q1 : ∀ z, (W z).cell? ⟨0, 0, none⟩ = some (.slice (some ⟨gb, go, none⟩) 8 gc) := fun z => (hW z).1.c
        have q2 : ∀ z, (W z).cell? ⟨gb, go + y4, none⟩ = some (.string sb) := fun z => (hW z).1.row y4 sb hsb
        have q3 : ∀ z, (W z).cell? ⟨p, 3, none⟩ = some (.int .u64 (oc : Int)) := fun z => (hW z).2
        clear hW
        simp only [List.take, opsAt, List.drop, List.cons_append, List.nil_append]
        repeat (go_big_quiet_step (fail))
        exact rfl
      simp only [List.take, List.drop, opsAt, List.cons_append, List.nil_append, wpHv]
      generalize w3_.drew = w4_ at HS_ HT4 ⊢
      obtain ⟨ds_, hds_, hr_⟩ := HT4.out.row
      have HR_ := hid hr_
      have hz_ := Nat.le_trans h0b HT4.out.bel.size
      clear hr_
      refine wpList_app_t rfl _ _ HR_.out rfl rfl _ rfl 7 hsz (by rw [List.length_append]; omega) hz_ ?_
      intro v5_ w5_ HF_
      have HS3_ : Hid (SRow N 0 baL w5_ gb go gc ∧ w5_.cell? ⟨p, 3, none⟩ = some (.int .u64 (oc : Int))) := hid ⟨HS_.out.1.below (by have := HG.out.n6; omega) (HF_.out.bel.mono hN), (HF_.out.kt _ _ _ (HT4.out.kt _ _ _ HP.out (by decide) (by decide)) (by decide)).cell 3⟩
      have HT5 : Hid (Tx n0 w1 bs (0 + 17 + i * 9 + 2 + 7) w5_ v5_) := hid (HT4.out.trans hds_ HF_.out.tx)
      clear HF_ HR_ hds_ hz_ HT4
      clear HS_
      refine ⟨HS3_.out, ?_⟩
      simp only [QN]
      clear HS3_
      have HQ_ : Hid (Tx n0 w1 bs (0 + 17 + (i + 1) * 9) w5_ v5_) := hid (HT5.out.mono (by omega))
      clear HT5
      go_wp2
      exact ⟨⟨i + 1, _, rfl, by go_num, by omega, HQ_⟩, by simp [intOf]; omega⟩
    · have dx2 : (x2 != 0) = true := by simp; omega
      by_cases hzi : i = z3
      · have dz_ : ((i : Int) == (z3 : Int)) = true := by simp; omega
        clear hzi
        go_wp2_with (at_builtin; refine stopHere ?_)
        intro _
        obtain ⟨ds_, hds_, hr_⟩ := HT3.out.row
        have HR_ := hid hr_
        have hz_ := Nat.le_trans h0b HT3.out.bel.size
        clear hr_
        refine wpList_app_t rfl _ _ HR_.out rfl rfl _ rfl 4 (by decide) (by rw [List.length_append]; omega) hz_ ?_
        intro v4_ w4_ HF_
        have HT4 : Hid (Tx n0 w1 bs (0 + 17 + i * 9 + 2 + 4) w4_ v4_) := hid (HT3.out.trans hds_ HF_.out.tx)
        clear HF_ HR_ hds_ hz_ HT3
        have HQ_ : Hid (Tx n0 w1 bs (0 + 17 + (i + 1) * 9) w4_ v4_) := hid (HT4.out.mono (by omega))
        clear HT4
        go_wp2
        exact ⟨⟨i + 1, _, rfl, by go_num, by omega, HQ_⟩, by simp [intOf]; omega⟩
      · have dz_ : ((i : Int) == (z3 : Int)) = false := by simp; omega
        obtain ⟨gb, go, gc, hS0⟩ := (HG.out.below (HT3.out.bel.mono hN)).ba
        go_upto_region 8 with fail
        have HS_ : Hid (SRow N 0 baL (w3_.drew) gb go gc ∧ (w3_.drew).cell? ⟨p, 3, none⟩ = some (.int .u64 (oc : Int))) := hid ⟨⟨hS0.lt, hS0.c, hS0.row⟩, (HT3.out.kt _ _ _ HP.out (by decide) (by decide)).cell 3⟩
        have HT4 : Hid (Tx n0 w1 bs (0 + 17 + i * 9 + 2) w3_.drew v3_) := hid (HT3.out.below h0b (Drew.below ⟨1, rfl⟩ _))
        clear hS0 HT3
        obtain ⟨sb, hsb, hsz⟩ : ∃ s, baL[y4]? = some s ∧ s.size ≤ 7 := ⟨_, List.getElem?_eq_getElem (show y4 < baL.length from hy4), baL_sz _ (List.getElem_mem _)⟩
        have i1 : (y4 : Int) < 8 := by omega
        refine wp_region_heavy (fun wz => SRow N 0 baL wz gb go gc ∧ wz.cell? ⟨p, 3, none⟩ = some (.int .u64 (oc : Int))) 14 [0, 1, 2, 3, 4, 5, 6, 7, 8, 9, 10, 11, 12] [13] rfl (by kernel_rfl) (by kernel_rfl) (fun d _ _ _ _ h => by cases d <;> exact h) HS_.out ?_
        apply Exists.intro
        refine ⟨?_, ?_⟩
        · intro W hW
          have q1 : ∀ z, (W z).cell? ⟨0, 0, none⟩ = some (.slice (some ⟨gb, go, none⟩) 8 gc) := fun z => (hW z).1.c
          have q2 : ∀ z, (W z).cell? ⟨gb, go + y4, none⟩ = some (.string sb) := fun z => (hW z).1.row y4 sb hsb
          have q3 : ∀ z, (W z).cell? ⟨p, 3, none⟩ = some (.int .u64 (oc : Int)) := fun z => (hW z).2
          clear hW
          simp only [List.take, opsAt, List.drop, List.cons_append, List.nil_append]
          repeat (go_big_quiet_step (fail))
          exact rfl
        simp only [List.take, List.drop, opsAt, List.cons_append, List.nil_append, wpHv]
        generalize w3_.drew = w4_ at HS_ HT4 ⊢
        obtain ⟨ds_, hds_, hr_⟩ := HT4.out.row
        have HR_ := hid hr_
        have hz_ := Nat.le_trans h0b HT4.out.bel.size
        clear hr_
        refine wpList_app_t rfl _ _ HR_.out rfl rfl _ rfl 7 hsz (by rw [List.length_append]; omega) hz_ ?_
        intro v5_ w5_ HF_
        have HS3_ : Hid (SRow N 0 baL w5_ gb go gc ∧ w5_.cell? ⟨p, 3, none⟩ = some (.int .u64 (oc : Int))) := hid ⟨HS_.out.1.below (by have := HG.out.n6; omega) (HF_.out.bel.mono hN), (HF_.out.kt _ _ _ (HT4.out.kt _ _ _ HP.out (by decide) (by decide)) (by decide)).cell 3⟩
        have HT5 : Hid (Tx n0 w1 bs (0 + 17 + i * 9 + 2 + 7) w5_ v5_) := hid (HT4.out.trans hds_ HF_.out.tx)
        clear HF_ HR_ hds_ hz_ HT4
        clear HS_
        refine ⟨HS3_.out, ?_⟩
        simp only [QN]
        clear HS3_
        have HQ_ : Hid (Tx n0 w1 bs (0 + 17 + (i + 1) * 9) w5_ v5_) := hid (HT5.out.mono (by omega))
        clear HT5
        go_wp2
        exact ⟨⟨i + 1, _, rfl, by go_num, by omega, HQ_⟩, by simp [intOf]; omega⟩
end
end Go.Proofs.Qxb6500883aGreatDoor
