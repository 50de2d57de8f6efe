/- Texts of scripts: types (written by tools/mk_tx.py). -/
import Derived.Test.Qxb6500883aGreatDoorScTc
namespace Go.Proofs.Qxb6500883aGreatDoor
open Go.RowKit
set_option linter.unusedSimpArgs false
set_option linter.unusedVariables false
section
variable {w w' : World} {n0 : Nat} {v v' : Value} {bs : List UInt8} {g ty co N mg : Nat}
def tyK : Nat → Nat
  | 0 => 7
  | 1 => 279
  | 2 => 1223
  | _ => 4999
theorem tyK_s : ∀ {k : Nat}, k ≤ 2 → 7 ≤ tyK k ∧ 272 + tyK k ≤ tyK (k + 1) ∧ 107 + 4 * tyK k ≤ tyK (k + 1) ∧ 273 ≤ tyK (k + 1) ∧ tyK (k + 1) ≤ 5000
  | 0, _ => by decide
  | 1, _ => by decide
  | 2, _ => by decide
  | k + 3, h => by omega
/-- What typ does with a given room. -/
def TyC (n0 N mg g ty co k : Nat) : Prop := ∀ (w : World) (v : Value) (bs : List UInt8), Gl N mg w → Dw w g ty co → OwR rtB n0 w v bs → n0 ≤ w.heap.size → bs.length + tyK k ≤ 70000000000000 → Calls Tryz.prog 72 #[.pointer (some ⟨g, 0, none⟩), v, .int .i64 (k : Int)] w fun e w' => ∃ v', e = .returned v' ∧ Hid (Tx n0 w bs (tyK k) w' v')
set_option maxRecDepth 100000 in
set_option maxHeartbeats 8000000 in
theorem typ0 (hg : n0 ≤ g) (hN : N ≤ n0) : TyC n0 N mg g ty co 0 := by
  intro w v bs hgl hd hr h0 hl
  have HT0 := hid (Tx.start hr)
  have HD := hid hd
  have HG := hid hgl
  have hK : tyK 0 = 7 := rfl
  obtain ⟨s_, hb_, hs_, hty, hco⟩ := HD.out
  have dc : ∀ (wz : World), Dw wz g ty co → wz.cell? ⟨g, 1, none⟩ = some (.int .u64 (ty : Int)) := fun wz ⟨_, hb, _⟩ => hb.cell 1
  clear hr hd hgl hb_ hs_
  go_enter Tryz.func72, Tryz.ntmps72
  go_wp2_with (at_builtin; refine stopHere ?_)
  have HD_ := hid (HT0.out.kd _ _ _ HD.out)
  refine (belowW HD_.out 33 (by decide) (by omega)).mono ?_
  rintro e w1_ ⟨r, rfl, hr, HU_⟩
  have HT1 : Hid (Tx n0 w bs (0) w1_ v) := hid (HT0.out.drawn h0 hg HD_.out HU_.out)
  clear HU_ HD_ HT0
  obtain ⟨c, hc, hc14⟩ : ∃ c : Nat, (r : Int) % 14 = (c : Int) ∧ c < 14 := ⟨r % 14, by omega, by omega⟩
  obtain h1_ | ⟨h1_, h2_⟩ : c < 8 ∨ (8 ≤ c ∧ c < 14) := by omega
  · have e1_ : decide ((c : Int) < 8) = true := decide_eq_true (by omega)
    have f1_ : c < 8 := by omega
    obtain ⟨gb, go, gc, hS0⟩ := (HG.out.below (HT1.out.bel.mono hN)).ba
    go_upto_region 5 with fail
    have HS_ : Hid (SRow N 0 baL (w1_.drew) gb go gc) := hid ⟨hS0.lt, hS0.c, hS0.row⟩
    have HT2 : Hid (Tx n0 w bs (0) w1_.drew v) := hid (HT1.out.below h0 (Drew.below ⟨1, rfl⟩ _))
    clear hS0 HT1
    refine wp_region_hlh (fun wz => SRow N 0 baL wz gb go gc) 10 [0, 1, 2, 3, 4, 5] [6] [7, 8] [9] rfl (by kernel_rfl) (by kernel_rfl) (fun d _ _ _ _ h => by cases d <;> exact h) HS_.out ?_
    apply Exists.intro
    refine ⟨?_, ?_⟩
    · intro W hW
      have q1 : ∀ z, (W z).cell? ⟨0, 0, none⟩ = some (.slice (some ⟨gb, go, none⟩) 8 gc) := fun z => (hW z).c
      clear hW
      simp only [List.take, opsAt, List.drop, List.cons_append, List.nil_append]
      repeat (go_big_quiet_step (fail))
      exact rfl
    simp only [List.take, List.drop, opsAt, List.cons_append, List.nil_append, wpHvK]
    generalize w1_.drew = w2_ at HS_ HT2 ⊢
    have HD_ := hid (HT2.out.kd _ _ _ HD.out)
    go_wp2_with fail
    refine (belowW HD_.out 8 (by decide) (by omega)).mono ?_
    rintro e w3_ ⟨r2, rfl, hr2, HU_⟩
    have HT3 : Hid (Tx n0 w bs (0) w3_ v) := hid (HT2.out.drawn h0 hg HD_.out HU_.out)
    have HS2_ : Hid (SRow N 0 baL w3_ gb go gc) := hid (HS_.out.below (by have := HG.out.n6; omega) (HU_.out.1.below (Nat.le_trans hN hg) (Nat.le_trans (Nat.le_trans hN h0) HT2.out.bel.size)))
    clear HU_ HD_ HS_ HT2
    obtain ⟨s, hs, hsz⟩ : ∃ s, baL[r2]? = some s ∧ s.size ≤ 7 := ⟨_, List.getElem?_eq_getElem (show r2 < baL.length from hr2), baL_sz _ (List.getElem_mem _)⟩
    have i1 : (r2 : Int) < 8 := by omega
    go_wp2_with fail
    refine ⟨HS2_.out, ?_⟩
    apply Exists.intro
    refine ⟨?_, ?_⟩
    · intro W hW
      have q2 : ∀ z, (W z).cell? ⟨gb, go + r2, none⟩ = some (.string s) := fun z => (hW z).row r2 s hs
      clear hW
      (try simp only [List.take, opsAt, List.drop, List.cons_append, List.nil_append])
      repeat (go_big_quiet_step (fail))
      exact rfl
    (try simp only [wpHv, opsAt, List.take, List.drop, List.cons_append, List.nil_append])
    obtain ⟨ds_, hds_, hr_⟩ := HT3.out.row
    have HR_ := hid hr_
    have hz_ := Nat.le_trans h0 HT3.out.bel.size
    clear hr_
    refine wpList_app_t rfl _ _ HR_.out rfl rfl _ rfl 7 (hsz) (by rw [List.length_append]; omega) hz_ ?_
    intro v4_ w4_ HF_
    have HS3_ : Hid (SRow N 0 baL w4_ gb go gc) := hid (HS2_.out.below (by have := HG.out.n6; omega) (HF_.out.bel.mono hN))
    have HT4 : Hid (Tx n0 w bs (0 + 7) w4_ v4_) := hid (HT3.out.trans hds_ HF_.out.tx)
    clear HF_ HR_ hds_ hz_ HT3
    clear HS2_
    refine ⟨HS3_.out, ?_⟩
    simp only [QN]
    clear HS3_
    have HQ_ : Hid (Tx n0 w bs (tyK 0) w4_ v4_) := hid (HT4.out.mono (by omega))
    clear HT4
    go_wp2
    go_ret
    exact ⟨_, rfl, HQ_⟩
  · have e1_ : decide ((c : Int) < 8) = false := decide_eq_false (by omega)
    have f1_ : ¬ c < 8 := by omega
    have e2_ : decide ((c : Int) < 14) = true := decide_eq_true (by omega)
    have f2_ : c < 14 := by omega
    have c2_ := dc _ (HT1.out.kd _ _ _ HD.out)
    by_cases hc0 : ty = 0
    · subst hc0
      obtain ⟨gb, go, gc, hS0⟩ := (HG.out.below (HT1.out.bel.mono hN)).ba
      obtain ⟨j, hj, hj8⟩ : ∃ j : Nat, IntKind.u64.wrap ((c : Int) - 8) = (j : Int) ∧ j < 8 := ⟨c - 8, by rw [IntKind.wrap_u64]; omega, by omega⟩
      obtain ⟨s, hs, hsz⟩ : ∃ s, baL[j]? = some s ∧ s.size ≤ 7 := ⟨_, List.getElem?_eq_getElem (show j < baL.length from hj8), baL_sz _ (List.getElem_mem _)⟩
      have q1_ := hS0.c
      have q2_ := hS0.row j s hs
      have j1_ : (j : Int) < 8 := by omega
      have el_ : baL.length = 8 := rfl
      rw [el_] at q1_
      clear hS0 hs
      go_wp2_with (at_builtin; refine stopHere ?_)
      intro _
      obtain ⟨ds_, hds_, hr_⟩ := HT1.out.row
      have HR_ := hid hr_
      have hz_ := Nat.le_trans h0 HT1.out.bel.size
      clear hr_
      refine wpList_app_t rfl _ _ HR_.out rfl rfl _ rfl 7 (hsz) (by rw [List.length_append]; omega) hz_ ?_
      intro v2_ w2_ HF_
      have HT2 : Hid (Tx n0 w bs (0 + 7) w2_ v2_) := hid (HT1.out.trans hds_ HF_.out.tx)
      clear HF_ HR_ hds_ hz_ HT1
      have HQ_ : Hid (Tx n0 w bs (tyK 0) w2_ v2_) := hid (HT2.out.mono (by omega))
      clear HT2
      go_wp2
      go_ret
      exact ⟨_, rfl, HQ_⟩
    · have dq_ : decide ((0 : Int) < (ty : Int)) = true := decide_eq_true (by omega)
      have dq2_ : 0 < ty := by omega
      go_wp2_with (at_builtin; refine stopHere ?_)
      have HD_ := hid (HT1.out.kd _ _ _ HD.out)
      refine (belowW HD_.out ty (by omega) (by omega)).mono ?_
      rintro e w2_ ⟨q, rfl, hq, HU_⟩
      have HT2 : Hid (Tx n0 w bs (0) w2_ v) := hid (HT1.out.drawn h0 hg HD_.out HU_.out)
      clear HU_ HD_ HT1
      go_wp2_with (at_builtin; refine stopHere ?_)
      refine (typeNameW q (by omega) _).mono ?_
      rintro e w3_ ⟨s, rfl, hs, HB_⟩
      have HT3 : Hid (Tx n0 w bs (0) w3_ v) := hid (HT2.out.below h0 HB_.out)
      clear HB_ HT2
      go_wp2_with (at_builtin; refine stopHere ?_)
      intro _
      obtain ⟨ds_, hds_, hr_⟩ := HT3.out.row
      have HR_ := hid hr_
      have hz_ := Nat.le_trans h0 HT3.out.bel.size
      clear hr_
      refine wpList_app_t rfl _ _ HR_.out rfl rfl _ rfl 3 (hs) (by rw [List.length_append]; omega) hz_ ?_
      intro v4_ w4_ HF_
      have HT4 : Hid (Tx n0 w bs (0 + 3) w4_ v4_) := hid (HT3.out.trans hds_ HF_.out.tx)
      clear HF_ HR_ hds_ hz_ HT3
      have HQ_ : Hid (Tx n0 w bs (tyK 0) w4_ v4_) := hid (HT4.out.mono (by omega))
      clear HT4
      go_wp2
      go_ret
      exact ⟨_, rfl, HQ_⟩
set_option maxRecDepth 100000 in
set_option maxHeartbeats 8000000 in
theorem typS (hg : n0 ≤ g) (hN : N ≤ n0) {k : Nat} (hk : k ≤ 2) (ih : TyC n0 N mg g ty co k) : TyC n0 N mg g ty co (k + 1) := by
  intro w v bs hgl hd hr h0 hl
  have HT0 := hid (Tx.start hr)
  have HD := hid hd
  have HG := hid hgl
  obtain ⟨hk0, hk1, hk2, hk3, hk4⟩ := tyK_s hk
  have HI := hid ih
  have ek : ((k + 1 : Nat) : Int) - 1 = (k : Int) := by omega
  have dk : decide (((k + 1 : Nat) : Int) ≤ 0) = false := decide_eq_false (by omega)
  have dk2 : ¬ (k : Int) + 1 ≤ 0 := by omega
  obtain ⟨s_, hb_, hs_, hty, hco⟩ := HD.out
  have dc : ∀ (wz : World), Dw wz g ty co → wz.cell? ⟨g, 1, none⟩ = some (.int .u64 (ty : Int)) := fun wz ⟨_, hb, _⟩ => hb.cell 1
  clear hr hd hgl hb_ hs_ ih
  go_enter Tryz.func72, Tryz.ntmps72
  go_wp2_with (at_builtin; refine stopHere ?_)
  have HD_ := hid (HT0.out.kd _ _ _ HD.out)
  refine (belowW HD_.out 33 (by decide) (by omega)).mono ?_
  rintro e w1_ ⟨c, rfl, hc, HU_⟩
  have HT1 : Hid (Tx n0 w bs (0) w1_ v) := hid (HT0.out.drawn h0 hg HD_.out HU_.out)
  clear HU_ HD_ HT0
  obtain h1_ | ⟨h1_, h2_⟩ | ⟨h1_, h2_⟩ | ⟨h1_, h2_⟩ | ⟨h1_, h2_⟩ | ⟨h1_, h2_⟩ | ⟨h1_, h2_⟩ | h1_ : c < 8 ∨ (8 ≤ c ∧ c < 14) ∨ (14 ≤ c ∧ c < 19) ∨ (19 ≤ c ∧ c < 24) ∨ (24 ≤ c ∧ c < 26) ∨ (26 ≤ c ∧ c < 28) ∨ (28 ≤ c ∧ c < 32) ∨ 32 ≤ c := by omega
  · have e1_ : decide ((c : Int) < 8) = true := decide_eq_true (by omega)
    have f1_ : c < 8 := by omega
    obtain ⟨gb, go, gc, hS0⟩ := (HG.out.below (HT1.out.bel.mono hN)).ba
    go_upto_region 5 with fail
    have HS_ : Hid (SRow N 0 baL (w1_.drew) gb go gc) := hid ⟨hS0.lt, hS0.c, hS0.row⟩
    have HT2 : Hid (Tx n0 w bs (0) w1_.drew v) := hid (HT1.out.below h0 (Drew.below ⟨1, rfl⟩ _))
    clear hS0 HT1
    refine wp_region_hlh (fun wz => SRow N 0 baL wz gb go gc) 10 [0, 1, 2, 3, 4, 5] [6] [7, 8] [9] rfl (by kernel_rfl) (by kernel_rfl) (fun d _ _ _ _ h => by cases d <;> exact h) HS_.out ?_
    apply Exists.intro
    refine ⟨?_, ?_⟩
    · intro W hW
      have q1 : ∀ z, (W z).cell? ⟨0, 0, none⟩ = some (.slice (some ⟨gb, go, none⟩) 8 gc) := fun z => (hW z).c
      clear hW
      simp only [List.take, opsAt, List.drop, List.cons_append, List.nil_append]
      repeat (go_big_quiet_step (fail))
      exact rfl
    simp only [List.take, List.drop, opsAt, List.cons_append, List.nil_append, wpHvK]
    generalize w1_.drew = w2_ at HS_ HT2 ⊢
    have HD_ := hid (HT2.out.kd _ _ _ HD.out)
    go_wp2_with fail
    refine (belowW HD_.out 8 (by decide) (by omega)).mono ?_
    rintro e w3_ ⟨r2, rfl, hr2, HU_⟩
    have HT3 : Hid (Tx n0 w bs (0) w3_ v) := hid (HT2.out.drawn h0 hg HD_.out HU_.out)
    have HS2_ : Hid (SRow N 0 baL w3_ gb go gc) := hid (HS_.out.below (by have := HG.out.n6; omega) (HU_.out.1.below (Nat.le_trans hN hg) (Nat.le_trans (Nat.le_trans hN h0) HT2.out.bel.size)))
    clear HU_ HD_ HS_ HT2
    obtain ⟨s, hs, hsz⟩ : ∃ s, baL[r2]? = some s ∧ s.size ≤ 7 := ⟨_, List.getElem?_eq_getElem (show r2 < baL.length from hr2), baL_sz _ (List.getElem_mem _)⟩
    have i1 : (r2 : Int) < 8 := by omega
    go_wp2_with fail
    refine ⟨HS2_.out, ?_⟩
    apply Exists.intro
    refine ⟨?_, ?_⟩
    · intro W hW
      have q2 : ∀ z, (W z).cell? ⟨gb, go + r2, none⟩ = some (.string s) := fun z => (hW z).row r2 s hs
      clear hW
      (try simp only [List.take, opsAt, List.drop, List.cons_append, List.nil_append])
      repeat (go_big_quiet_step (fail))
      exact rfl
    (try simp only [wpHv, opsAt, List.take, List.drop, List.cons_append, List.nil_append])
    obtain ⟨ds_, hds_, hr_⟩ := HT3.out.row
    have HR_ := hid hr_
    have hz_ := Nat.le_trans h0 HT3.out.bel.size
    clear hr_
    refine wpList_app_t rfl _ _ HR_.out rfl rfl _ rfl 7 (hsz) (by rw [List.length_append]; omega) hz_ ?_
    intro v4_ w4_ HF_
    have HS3_ : Hid (SRow N 0 baL w4_ gb go gc) := hid (HS2_.out.below (by have := HG.out.n6; omega) (HF_.out.bel.mono hN))
    have HT4 : Hid (Tx n0 w bs (0 + 7) w4_ v4_) := hid (HT3.out.trans hds_ HF_.out.tx)
    clear HF_ HR_ hds_ hz_ HT3
    clear HS2_
    refine ⟨HS3_.out, ?_⟩
    simp only [QN]
    clear HS3_
    have HQ_ : Hid (Tx n0 w bs (tyK (k + 1)) w4_ v4_) := hid (HT4.out.mono (by omega))
    clear HT4
    go_wp2
    go_ret
    exact ⟨_, rfl, HQ_⟩
  · have e1_ : decide ((c : Int) < 8) = false := decide_eq_false (by omega)
    have f1_ : ¬ c < 8 := by omega
    have e2_ : decide ((c : Int) < 14) = true := decide_eq_true (by omega)
    have f2_ : c < 14 := by omega
    have c2_ := dc _ (HT1.out.kd _ _ _ HD.out)
    by_cases hc0 : ty = 0
    · subst hc0
      obtain ⟨gb, go, gc, hS0⟩ := (HG.out.below (HT1.out.bel.mono hN)).ba
      obtain ⟨j, hj, hj8⟩ : ∃ j : Nat, IntKind.u64.wrap ((c : Int) - 8) = (j : Int) ∧ j < 8 := ⟨c - 8, by rw [IntKind.wrap_u64]; omega, by omega⟩
      obtain ⟨s, hs, hsz⟩ : ∃ s, baL[j]? = some s ∧ s.size ≤ 7 := ⟨_, List.getElem?_eq_getElem (show j < baL.length from hj8), baL_sz _ (List.getElem_mem _)⟩
      have q1_ := hS0.c
      have q2_ := hS0.row j s hs
      have j1_ : (j : Int) < 8 := by omega
      have el_ : baL.length = 8 := rfl
      rw [el_] at q1_
      clear hS0 hs
      go_wp2_with (at_builtin; refine stopHere ?_)
      intro _
      obtain ⟨ds_, hds_, hr_⟩ := HT1.out.row
      have HR_ := hid hr_
      have hz_ := Nat.le_trans h0 HT1.out.bel.size
      clear hr_
      refine wpList_app_t rfl _ _ HR_.out rfl rfl _ rfl 7 (hsz) (by rw [List.length_append]; omega) hz_ ?_
      intro v2_ w2_ HF_
      have HT2 : Hid (Tx n0 w bs (0 + 7) w2_ v2_) := hid (HT1.out.trans hds_ HF_.out.tx)
      clear HF_ HR_ hds_ hz_ HT1
      have HQ_ : Hid (Tx n0 w bs (tyK (k + 1)) w2_ v2_) := hid (HT2.out.mono (by omega))
      clear HT2
      go_wp2
      go_ret
      exact ⟨_, rfl, HQ_⟩
    · have dq_ : decide ((0 : Int) < (ty : Int)) = true := decide_eq_true (by omega)
      have dq2_ : 0 < ty := by omega
      go_wp2_with (at_builtin; refine stopHere ?_)
      have HD_ := hid (HT1.out.kd _ _ _ HD.out)
      refine (belowW HD_.out ty (by omega) (by omega)).mono ?_
      rintro e w2_ ⟨q, rfl, hq, HU_⟩
      have HT2 : Hid (Tx n0 w bs (0) w2_ v) := hid (HT1.out.drawn h0 hg HD_.out HU_.out)
      clear HU_ HD_ HT1
      go_wp2_with (at_builtin; refine stopHere ?_)
      refine (typeNameW q (by omega) _).mono ?_
      rintro e w3_ ⟨s, rfl, hs, HB_⟩
      have HT3 : Hid (Tx n0 w bs (0) w3_ v) := hid (HT2.out.below h0 HB_.out)
      clear HB_ HT2
      go_wp2_with (at_builtin; refine stopHere ?_)
      intro _
      obtain ⟨ds_, hds_, hr_⟩ := HT3.out.row
      have HR_ := hid hr_
      have hz_ := Nat.le_trans h0 HT3.out.bel.size
      clear hr_
      refine wpList_app_t rfl _ _ HR_.out rfl rfl _ rfl 3 (hs) (by rw [List.length_append]; omega) hz_ ?_
      intro v4_ w4_ HF_
      have HT4 : Hid (Tx n0 w bs (0 + 3) w4_ v4_) := hid (HT3.out.trans hds_ HF_.out.tx)
      clear HF_ HR_ hds_ hz_ HT3
      have HQ_ : Hid (Tx n0 w bs (tyK (k + 1)) w4_ v4_) := hid (HT4.out.mono (by omega))
      clear HT4
      go_wp2
      go_ret
      exact ⟨_, rfl, HQ_⟩
  · have e1_ : decide ((c : Int) < 8) = false := decide_eq_false (by omega)
    have f1_ : ¬ c < 8 := by omega
    have e2_ : decide ((c : Int) < 14) = false := decide_eq_false (by omega)
    have f2_ : ¬ c < 14 := by omega
    have e3_ : decide ((c : Int) < 24) = true := decide_eq_true (by omega)
    have f3_ : c < 24 := by omega
    have e9_ : decide ((19 : Int) ≤ (c : Int)) = false := decide_eq_false (by omega)
    have f9_ : ¬ 19 ≤ c := by omega
    go_wp2_with (at_builtin; refine stopHere ?_)
    intro _
    obtain ⟨ds_, hds_, hr_⟩ := HT1.out.row
    have HR_ := hid hr_
    have hz_ := Nat.le_trans h0 HT1.out.bel.size
    clear hr_
    refine wpList_app_t rfl _ _ HR_.out rfl rfl _ rfl 7 (by decide) (by rw [List.length_append]; omega) hz_ ?_
    intro v2_ w2_ HF_
    have HT2 : Hid (Tx n0 w bs (0 + 7) w2_ v2_) := hid (HT1.out.trans hds_ HF_.out.tx)
    clear HF_ HR_ hds_ hz_ HT1
    go_wp2_with (at_builtin; refine stopHere ?_)
    obtain ⟨ds_, hds_, hr_⟩ := HT2.out.row
    have HR_ := hid hr_
    have hz_ := Nat.le_trans h0 HT2.out.bel.size
    clear hr_
    refine (HI.out _ _ _ (HG.out.below (HT2.out.bel.mono hN)) (HT2.out.kd _ _ _ HD.out) HR_.out hz_ (by rw [List.length_append]; omega)).mono ?_
    rintro e w3_ ⟨v3_, rfl, HF_⟩
    have HT3 : Hid (Tx n0 w bs (0 + 7 + tyK k) w3_ v3_) := hid (HT2.out.trans hds_ HF_.out)
    clear HF_ HR_ hds_ hz_ HT2
    go_wp2_with (at_builtin; refine stopHere ?_)
    obtain ⟨ds_, hds_, hr_⟩ := HT3.out.row
    have HR_ := hid hr_
    have hz_ := Nat.le_trans h0 HT3.out.bel.size
    clear hr_
    refine (gapW (HT3.out.kd _ _ _ HD.out) hg HR_.out hz_ (by rw [List.length_append]; omega)).mono ?_
    rintro e w4_ ⟨v4_, rfl, HF_⟩
    have HT4 : Hid (Tx n0 w bs (0 + 7 + tyK k + 24) w4_ v4_) := hid (HT3.out.trans hds_ HF_.out)
    clear HF_ HR_ hds_ hz_ HT3
    go_wp2_with (at_builtin; refine stopHere ?_)
    intro _
    obtain ⟨ds_, hds_, hr_⟩ := HT4.out.row
    have HR_ := hid hr_
    have hz_ := Nat.le_trans h0 HT4.out.bel.size
    clear hr_
    refine wpList_app_t rfl _ _ HR_.out rfl rfl _ rfl 2 (by decide) (by rw [List.length_append]; omega) hz_ ?_
    intro v5_ w5_ HF_
    have HT5 : Hid (Tx n0 w bs (0 + 7 + tyK k + 24 + 2) w5_ v5_) := hid (HT4.out.trans hds_ HF_.out.tx)
    clear HF_ HR_ hds_ hz_ HT4
    go_wp2_with (at_builtin; refine stopHere ?_)
    obtain ⟨ds_, hds_, hr_⟩ := HT5.out.row
    have HR_ := hid hr_
    have hz_ := Nat.le_trans h0 HT5.out.bel.size
    clear hr_
    refine (countW hg hN (HG.out.below (HT5.out.bel.mono hN)) (HT5.out.kd _ _ _ HD.out) HR_.out hz_ (by rw [List.length_append]; omega)).mono ?_
    rintro e w6_ ⟨v6_, rfl, HF_⟩
    have HT6 : Hid (Tx n0 w bs (0 + 7 + tyK k + 24 + 2 + 238) w6_ v6_) := hid (HT5.out.trans hds_ HF_.out)
    clear HF_ HR_ hds_ hz_ HT5
    go_wp2_with (at_builtin; refine stopHere ?_)
    intro _
    obtain ⟨ds_, hds_, hr_⟩ := HT6.out.row
    have HR_ := hid hr_
    have hz_ := Nat.le_trans h0 HT6.out.bel.size
    clear hr_
    refine wpList_app_n rfl _ _ [93] HR_.out rfl rfl _ rfl 1 rfl rfl (by rw [List.length_append]; omega) hz_ ?_
    intro v7_ w7_ HF_
    have HT7 : Hid (Tx n0 w bs (0 + 7 + tyK k + 24 + 2 + 238 + 1) w7_ v7_) := hid (HT6.out.trans hds_ HF_.out.tx)
    clear HF_ HR_ hds_ hz_ HT6
    have HQ_ : Hid (Tx n0 w bs (tyK (k + 1)) w7_ v7_) := hid (HT7.out.mono (by omega))
    clear HT7
    go_wp2
    go_ret
    exact ⟨_, rfl, HQ_⟩
  · have e1_ : decide ((c : Int) < 8) = false := decide_eq_false (by omega)
    have f1_ : ¬ c < 8 := by omega
    have e2_ : decide ((c : Int) < 14) = false := decide_eq_false (by omega)
    have f2_ : ¬ c < 14 := by omega
    have e3_ : decide ((c : Int) < 24) = true := decide_eq_true (by omega)
    have f3_ : c < 24 := by omega
    have e9_ : decide ((19 : Int) ≤ (c : Int)) = true := decide_eq_true (by omega)
    have f9_ : 19 ≤ c := by omega
    go_wp2_with (at_builtin; refine stopHere ?_)
    intro _
    obtain ⟨ds_, hds_, hr_⟩ := HT1.out.row
    have HR_ := hid hr_
    have hz_ := Nat.le_trans h0 HT1.out.bel.size
    clear hr_
    refine wpList_app_t rfl _ _ HR_.out rfl rfl _ rfl 5 (by decide) (by rw [List.length_append]; omega) hz_ ?_
    intro v2_ w2_ HF_
    have HT2 : Hid (Tx n0 w bs (0 + 5) w2_ v2_) := hid (HT1.out.trans hds_ HF_.out.tx)
    clear HF_ HR_ hds_ hz_ HT1
    go_wp2_with (at_builtin; refine stopHere ?_)
    obtain ⟨ds_, hds_, hr_⟩ := HT2.out.row
    have HR_ := hid hr_
    have hz_ := Nat.le_trans h0 HT2.out.bel.size
    clear hr_
    refine (HI.out _ _ _ (HG.out.below (HT2.out.bel.mono hN)) (HT2.out.kd _ _ _ HD.out) HR_.out hz_ (by rw [List.length_append]; omega)).mono ?_
    rintro e w3_ ⟨v3_, rfl, HF_⟩
    have HT3 : Hid (Tx n0 w bs (0 + 5 + tyK k) w3_ v3_) := hid (HT2.out.trans hds_ HF_.out)
    clear HF_ HR_ hds_ hz_ HT2
    go_wp2_with (at_builtin; refine stopHere ?_)
    obtain ⟨ds_, hds_, hr_⟩ := HT3.out.row
    have HR_ := hid hr_
    have hz_ := Nat.le_trans h0 HT3.out.bel.size
    clear hr_
    refine (gapW (HT3.out.kd _ _ _ HD.out) hg HR_.out hz_ (by rw [List.length_append]; omega)).mono ?_
    rintro e w4_ ⟨v4_, rfl, HF_⟩
    have HT4 : Hid (Tx n0 w bs (0 + 5 + tyK k + 24) w4_ v4_) := hid (HT3.out.trans hds_ HF_.out)
    clear HF_ HR_ hds_ hz_ HT3
    go_wp2_with (at_builtin; refine stopHere ?_)
    intro _
    obtain ⟨ds_, hds_, hr_⟩ := HT4.out.row
    have HR_ := hid hr_
    have hz_ := Nat.le_trans h0 HT4.out.bel.size
    clear hr_
    refine wpList_app_t rfl _ _ HR_.out rfl rfl _ rfl 2 (by decide) (by rw [List.length_append]; omega) hz_ ?_
    intro v5_ w5_ HF_
    have HT5 : Hid (Tx n0 w bs (0 + 5 + tyK k + 24 + 2) w5_ v5_) := hid (HT4.out.trans hds_ HF_.out.tx)
    clear HF_ HR_ hds_ hz_ HT4
    go_wp2_with (at_builtin; refine stopHere ?_)
    obtain ⟨ds_, hds_, hr_⟩ := HT5.out.row
    have HR_ := hid hr_
    have hz_ := Nat.le_trans h0 HT5.out.bel.size
    clear hr_
    refine (countW hg hN (HG.out.below (HT5.out.bel.mono hN)) (HT5.out.kd _ _ _ HD.out) HR_.out hz_ (by rw [List.length_append]; omega)).mono ?_
    rintro e w6_ ⟨v6_, rfl, HF_⟩
    have HT6 : Hid (Tx n0 w bs (0 + 5 + tyK k + 24 + 2 + 238) w6_ v6_) := hid (HT5.out.trans hds_ HF_.out)
    clear HF_ HR_ hds_ hz_ HT5
    go_wp2_with (at_builtin; refine stopHere ?_)
    intro _
    obtain ⟨ds_, hds_, hr_⟩ := HT6.out.row
    have HR_ := hid hr_
    have hz_ := Nat.le_trans h0 HT6.out.bel.size
    clear hr_
    refine wpList_app_n rfl _ _ [93] HR_.out rfl rfl _ rfl 1 rfl rfl (by rw [List.length_append]; omega) hz_ ?_
    intro v7_ w7_ HF_
    have HT7 : Hid (Tx n0 w bs (0 + 5 + tyK k + 24 + 2 + 238 + 1) w7_ v7_) := hid (HT6.out.trans hds_ HF_.out.tx)
    clear HF_ HR_ hds_ hz_ HT6
    have HQ_ : Hid (Tx n0 w bs (tyK (k + 1)) w7_ v7_) := hid (HT7.out.mono (by omega))
    clear HT7
    go_wp2
    go_ret
    exact ⟨_, rfl, HQ_⟩
  · have e1_ : decide ((c : Int) < 8) = false := decide_eq_false (by omega)
    have f1_ : ¬ c < 8 := by omega
    have e2_ : decide ((c : Int) < 14) = false := decide_eq_false (by omega)
    have f2_ : ¬ c < 14 := by omega
    have e3_ : decide ((c : Int) < 24) = false := decide_eq_false (by omega)
    have f3_ : ¬ c < 24 := by omega
    have e4_ : decide ((c : Int) < 28) = true := decide_eq_true (by omega)
    have f4_ : c < 28 := by omega
    have e9_ : decide ((26 : Int) ≤ (c : Int)) = false := decide_eq_false (by omega)
    have f9_ : ¬ 26 ≤ c := by omega
    go_wp2_with (at_builtin; refine stopHere ?_)
    intro _
    obtain ⟨ds_, hds_, hr_⟩ := HT1.out.row
    have HR_ := hid hr_
    have hz_ := Nat.le_trans h0 HT1.out.bel.size
    clear hr_
    refine wpList_app_t rfl _ _ HR_.out rfl rfl _ rfl 10 (by decide) (by rw [List.length_append]; omega) hz_ ?_
    intro v2_ w2_ HF_
    have HT2 : Hid (Tx n0 w bs (0 + 10) w2_ v2_) := hid (HT1.out.trans hds_ HF_.out.tx)
    clear HF_ HR_ hds_ hz_ HT1
    go_wp2_with (at_builtin; refine stopHere ?_)
    obtain ⟨ds_, hds_, hr_⟩ := HT2.out.row
    have HR_ := hid hr_
    have hz_ := Nat.le_trans h0 HT2.out.bel.size
    clear hr_
    refine (countW hg hN (HG.out.below (HT2.out.bel.mono hN)) (HT2.out.kd _ _ _ HD.out) HR_.out hz_ (by rw [List.length_append]; omega)).mono ?_
    rintro e w3_ ⟨v3_, rfl, HF_⟩
    have HT3 : Hid (Tx n0 w bs (0 + 10 + 238) w3_ v3_) := hid (HT2.out.trans hds_ HF_.out)
    clear HF_ HR_ hds_ hz_ HT2
    go_wp2_with (at_builtin; refine stopHere ?_)
    obtain ⟨ds_, hds_, hr_⟩ := HT3.out.row
    have HR_ := hid hr_
    have hz_ := Nat.le_trans h0 HT3.out.bel.size
    clear hr_
    refine (gapW (HT3.out.kd _ _ _ HD.out) hg HR_.out hz_ (by rw [List.length_append]; omega)).mono ?_
    rintro e w4_ ⟨v4_, rfl, HF_⟩
    have HT4 : Hid (Tx n0 w bs (0 + 10 + 238 + 24) w4_ v4_) := hid (HT3.out.trans hds_ HF_.out)
    clear HF_ HR_ hds_ hz_ HT3
    go_wp2_with (at_builtin; refine stopHere ?_)
    intro _
    obtain ⟨ds_, hds_, hr_⟩ := HT4.out.row
    have HR_ := hid hr_
    have hz_ := Nat.le_trans h0 HT4.out.bel.size
    clear hr_
    refine wpList_app_n rfl _ _ [93] HR_.out rfl rfl _ rfl 1 rfl rfl (by rw [List.length_append]; omega) hz_ ?_
    intro v5_ w5_ HF_
    have HT5 : Hid (Tx n0 w bs (0 + 10 + 238 + 24 + 1) w5_ v5_) := hid (HT4.out.trans hds_ HF_.out.tx)
    clear HF_ HR_ hds_ hz_ HT4
    have HQ_ : Hid (Tx n0 w bs (tyK (k + 1)) w5_ v5_) := hid (HT5.out.mono (by omega))
    clear HT5
    go_wp2
    go_ret
    exact ⟨_, rfl, HQ_⟩
  · have e1_ : decide ((c : Int) < 8) = false := decide_eq_false (by omega)
    have f1_ : ¬ c < 8 := by omega
    have e2_ : decide ((c : Int) < 14) = false := decide_eq_false (by omega)
    have f2_ : ¬ c < 14 := by omega
    have e3_ : decide ((c : Int) < 24) = false := decide_eq_false (by omega)
    have f3_ : ¬ c < 24 := by omega
    have e4_ : decide ((c : Int) < 28) = true := decide_eq_true (by omega)
    have f4_ : c < 28 := by omega
    have e9_ : decide ((26 : Int) ≤ (c : Int)) = true := decide_eq_true (by omega)
    have f9_ : 26 ≤ c := by omega
    go_wp2_with (at_builtin; refine stopHere ?_)
    intro _
    obtain ⟨ds_, hds_, hr_⟩ := HT1.out.row
    have HR_ := hid hr_
    have hz_ := Nat.le_trans h0 HT1.out.bel.size
    clear hr_
    refine wpList_app_t rfl _ _ HR_.out rfl rfl _ rfl 8 (by decide) (by rw [List.length_append]; omega) hz_ ?_
    intro v2_ w2_ HF_
    have HT2 : Hid (Tx n0 w bs (0 + 8) w2_ v2_) := hid (HT1.out.trans hds_ HF_.out.tx)
    clear HF_ HR_ hds_ hz_ HT1
    go_wp2_with (at_builtin; refine stopHere ?_)
    obtain ⟨ds_, hds_, hr_⟩ := HT2.out.row
    have HR_ := hid hr_
    have hz_ := Nat.le_trans h0 HT2.out.bel.size
    clear hr_
    refine (countW hg hN (HG.out.below (HT2.out.bel.mono hN)) (HT2.out.kd _ _ _ HD.out) HR_.out hz_ (by rw [List.length_append]; omega)).mono ?_
    rintro e w3_ ⟨v3_, rfl, HF_⟩
    have HT3 : Hid (Tx n0 w bs (0 + 8 + 238) w3_ v3_) := hid (HT2.out.trans hds_ HF_.out)
    clear HF_ HR_ hds_ hz_ HT2
    go_wp2_with (at_builtin; refine stopHere ?_)
    obtain ⟨ds_, hds_, hr_⟩ := HT3.out.row
    have HR_ := hid hr_
    have hz_ := Nat.le_trans h0 HT3.out.bel.size
    clear hr_
    refine (gapW (HT3.out.kd _ _ _ HD.out) hg HR_.out hz_ (by rw [List.length_append]; omega)).mono ?_
    rintro e w4_ ⟨v4_, rfl, HF_⟩
    have HT4 : Hid (Tx n0 w bs (0 + 8 + 238 + 24) w4_ v4_) := hid (HT3.out.trans hds_ HF_.out)
    clear HF_ HR_ hds_ hz_ HT3
    go_wp2_with (at_builtin; refine stopHere ?_)
    intro _
    obtain ⟨ds_, hds_, hr_⟩ := HT4.out.row
    have HR_ := hid hr_
    have hz_ := Nat.le_trans h0 HT4.out.bel.size
    clear hr_
    refine wpList_app_n rfl _ _ [93] HR_.out rfl rfl _ rfl 1 rfl rfl (by rw [List.length_append]; omega) hz_ ?_
    intro v5_ w5_ HF_
    have HT5 : Hid (Tx n0 w bs (0 + 8 + 238 + 24 + 1) w5_ v5_) := hid (HT4.out.trans hds_ HF_.out.tx)
    clear HF_ HR_ hds_ hz_ HT4
    have HQ_ : Hid (Tx n0 w bs (tyK (k + 1)) w5_ v5_) := hid (HT5.out.mono (by omega))
    clear HT5
    go_wp2
    go_ret
    exact ⟨_, rfl, HQ_⟩
  · have e1_ : decide ((c : Int) < 8) = false := decide_eq_false (by omega)
    have f1_ : ¬ c < 8 := by omega
    have e2_ : decide ((c : Int) < 14) = false := decide_eq_false (by omega)
    have f2_ : ¬ c < 14 := by omega
    have e3_ : decide ((c : Int) < 24) = false := decide_eq_false (by omega)
    have f3_ : ¬ c < 24 := by omega
    have e4_ : decide ((c : Int) < 28) = false := decide_eq_false (by omega)
    have f4_ : ¬ c < 28 := by omega
    have e5_ : decide ((c : Int) < 32) = true := decide_eq_true (by omega)
    have f5_ : c < 32 := by omega
    go_wp2_with (at_builtin; refine stopHere ?_)
    intro _
    obtain ⟨ds_, hds_, hr_⟩ := HT1.out.row
    have HR_ := hid hr_
    have hz_ := Nat.le_trans h0 HT1.out.bel.size
    clear hr_
    refine wpList_app_t rfl _ _ HR_.out rfl rfl _ rfl 6 (by decide) (by rw [List.length_append]; omega) hz_ ?_
    intro v2_ w2_ HF_
    have HT2 : Hid (Tx n0 w bs (0 + 6) w2_ v2_) := hid (HT1.out.trans hds_ HF_.out.tx)
    clear HF_ HR_ hds_ hz_ HT1
    go_wp2_with (at_builtin; refine stopHere ?_)
    have HD_ := hid (HT2.out.kd _ _ _ HD.out)
    refine (belowW HD_.out 5 (by decide) (by omega)).mono ?_
    rintro e w3_ ⟨n, rfl, hn, HU_⟩
    have HT3 : Hid (Tx n0 w bs (0 + 6) w3_ v2_) := hid (HT2.out.drawn h0 hg HD_.out HU_.out)
    clear HU_ HD_ HT2
    by_cases hn0 : n = 0
    · subst hn0
      go_wp2_with (at_builtin; refine stopHere ?_)
      have HD_ := hid (HT3.out.kd _ _ _ HD.out)
      refine (belowW HD_.out 4 (by decide) (by omega)).mono ?_
      rintro e w4_ ⟨q, rfl, hq, HU_⟩
      have HT4 : Hid (Tx n0 w bs (0 + 6) w4_ v2_) := hid (HT3.out.drawn h0 hg HD_.out HU_.out)
      clear HU_ HD_ HT3
      by_cases hq0 : q = 0
      · subst hq0
        go_upto_region 34 with fail
        go_loopw [1, 11] (fun s t wr => ∃ (i : Nat) (b : Value), s = b ∧ t = .int .u64 (i : Int) ∧ i ≤ 0 ∧ Hid (Tx n0 w bs (0 + 6 + i * (25 + tyK k)) wr b)) (fun _ t _ => 0 - (intOf t).toNat)
        case atStart => exact ⟨0, _, rfl, rfl, Nat.zero_le _, hid (HT4.out.mono (by omega))⟩
        case round =>
        obtain ⟨i, b, rfl, rfl, hi, HL⟩ := hrel
        clear HT4
        by_cases hin : i < 0
        rotate_left
        · have d1_ : decide ((i : Int) < (0 : Int)) = false := decide_eq_false (by omega)
          have hP_ : i * (25 + tyK k) ≤ 4 * (25 + tyK k) := Nat.mul_le_mul_right _ (by omega)
          go_wp2_with (at_builtin; refine stopHere ?_)
          intro _
          obtain ⟨ds_, hds_, hr_⟩ := HL.out.row
          have HR_ := hid hr_
          have hz_ := Nat.le_trans h0 HL.out.bel.size
          clear hr_
          refine wpList_app_n rfl _ _ [93] HR_.out rfl rfl _ rfl 1 rfl rfl (by rw [List.length_append]; omega) hz_ ?_
          intro v5_ w5_ HF_
          have HT5 : Hid (Tx n0 w bs (0 + 6 + i * (25 + tyK k) + 1) w5_ v5_) := hid (HL.out.trans hds_ HF_.out.tx)
          clear HF_ HR_ hds_ hz_ HL
          have HQ_ : Hid (Tx n0 w bs (tyK (k + 1)) w5_ v5_) := hid (HT5.out.mono (by omega))
          clear HT5
          go_wp2
          go_ret
          exact ⟨_, rfl, HQ_⟩
        have d1_ : decide ((i : Int) < (0 : Int)) = true := decide_eq_true (by omega)
        have hP_ : i * (25 + tyK k) ≤ 3 * (25 + tyK k) := Nat.mul_le_mul_right _ (by omega)
        have hM_ : (i + 1) * (25 + tyK k) = i * (25 + tyK k) + (25 + tyK k) := Nat.succ_mul _ _
        have ew_ : IntKind.u64.wrap ((i : Int) + 1) = ((i + 1 : Nat) : Int) := by rw [IntKind.wrap_u64]; omega
        by_cases hi0 : i = 0
        · have hi1_ : ¬ 0 < i := by omega
          have d2_ : decide ((0 : Int) < (i : Int)) = false := decide_eq_false (by omega)
          have d3_ : ((i : Int) == 0) = true := by simp; omega
          omega
        · have hi1_ : 0 < i := by omega
          have d2_ : decide ((0 : Int) < (i : Int)) = true := decide_eq_true (by omega)
          have d3_ : ((i : Int) == 0) = false := by simp; omega
          omega
      · have dq0 : ((q : Int) == 0) = false := by simp; omega
        have dq1 : ((q : Int) != 0) = true := by simp; omega
        go_upto_region 34 with fail
        go_loopw [1, 11] (fun s t wr => ∃ (i : Nat) (b : Value), s = b ∧ t = .int .u64 (i : Int) ∧ i ≤ 2 ∧ Hid (Tx n0 w bs (0 + 6 + i * (25 + tyK k)) wr b)) (fun _ t _ => 2 - (intOf t).toNat)
        case atStart => exact ⟨0, _, rfl, rfl, Nat.zero_le _, hid (HT4.out.mono (by omega))⟩
        case round =>
        obtain ⟨i, b, rfl, rfl, hi, HL⟩ := hrel
        clear HT4
        by_cases hin : i < 2
        rotate_left
        · have d1_ : decide ((i : Int) < (2 : Int)) = false := decide_eq_false (by omega)
          have hP_ : i * (25 + tyK k) ≤ 4 * (25 + tyK k) := Nat.mul_le_mul_right _ (by omega)
          go_wp2_with (at_builtin; refine stopHere ?_)
          intro _
          obtain ⟨ds_, hds_, hr_⟩ := HL.out.row
          have HR_ := hid hr_
          have hz_ := Nat.le_trans h0 HL.out.bel.size
          clear hr_
          refine wpList_app_n rfl _ _ [93] HR_.out rfl rfl _ rfl 1 rfl rfl (by rw [List.length_append]; omega) hz_ ?_
          intro v5_ w5_ HF_
          have HT5 : Hid (Tx n0 w bs (0 + 6 + i * (25 + tyK k) + 1) w5_ v5_) := hid (HL.out.trans hds_ HF_.out.tx)
          clear HF_ HR_ hds_ hz_ HL
          have HQ_ : Hid (Tx n0 w bs (tyK (k + 1)) w5_ v5_) := hid (HT5.out.mono (by omega))
          clear HT5
          go_wp2
          go_ret
          exact ⟨_, rfl, HQ_⟩
        have d1_ : decide ((i : Int) < (2 : Int)) = true := decide_eq_true (by omega)
        have hP_ : i * (25 + tyK k) ≤ 3 * (25 + tyK k) := Nat.mul_le_mul_right _ (by omega)
        have hM_ : (i + 1) * (25 + tyK k) = i * (25 + tyK k) + (25 + tyK k) := Nat.succ_mul _ _
        have ew_ : IntKind.u64.wrap ((i : Int) + 1) = ((i + 1 : Nat) : Int) := by rw [IntKind.wrap_u64]; omega
        by_cases hi0 : i = 0
        · have hi1_ : ¬ 0 < i := by omega
          have d2_ : decide ((0 : Int) < (i : Int)) = false := decide_eq_false (by omega)
          have d3_ : ((i : Int) == 0) = true := by simp; omega
          clear hi0
          go_wp2_with (at_builtin; refine stopHere ?_)
          have HD_ := hid (HL.out.kd _ _ _ HD.out)
          refine (belowW HD_.out 3 (by decide) (by omega)).mono ?_
          rintro e w5_ ⟨q3, rfl, hq3, HU_⟩
          have HT5 : Hid (Tx n0 w bs (0 + 6 + i * (25 + tyK k)) w5_ u1) := hid (HL.out.drawn h0 hg HD_.out HU_.out)
          clear HU_ HD_ HL
          by_cases hq3 : q3 = 0
          · subst hq3
            go_wp2_with (at_builtin; refine stopHere ?_)
            intro _
            obtain ⟨ds_, hds_, hr_⟩ := HT5.out.row
            have HR_ := hid hr_
            have hz_ := Nat.le_trans h0 HT5.out.bel.size
            clear hr_
            refine wpList_app_t rfl _ _ HR_.out rfl rfl _ rfl 4 (by decide) (by rw [List.length_append]; omega) hz_ ?_
            intro v6_ w6_ HF_
            have HT6 : Hid (Tx n0 w bs (0 + 6 + i * (25 + tyK k) + 4) w6_ v6_) := hid (HT5.out.trans hds_ HF_.out.tx)
            clear HF_ HR_ hds_ hz_ HT5
            have HQ_ : Hid (Tx n0 w bs (0 + 6 + (i + 1) * (25 + tyK k)) w6_ v6_) := hid (HT6.out.mono (by omega))
            clear HT6
            go_wp2
            exact ⟨⟨i + 1, _, rfl, by go_num, by omega, HQ_⟩, by simp [intOf]; omega⟩
          · have dq3 : ((q3 : Int) == 0) = false := by simp; omega
            go_wp2_with (at_builtin; refine stopHere ?_)
            have HD_ := hid (HT5.out.kd _ _ _ HD.out)
            refine (belowW HD_.out 80 (by decide) (by omega)).mono ?_
            rintro e w6_ ⟨q8, rfl, hq8, HU_⟩
            have HT6 : Hid (Tx n0 w bs (0 + 6 + i * (25 + tyK k)) w6_ u1) := hid (HT5.out.drawn h0 hg HD_.out HU_.out)
            clear HU_ HD_ HT5
            by_cases hq8 : q8 = 0
            · subst hq8
              go_wp2_with (at_builtin; refine stopHere ?_)
              intro _
              obtain ⟨ds_, hds_, hr_⟩ := HT6.out.row
              have HR_ := hid hr_
              have hz_ := Nat.le_trans h0 HT6.out.bel.size
              clear hr_
              refine wpList_app_t rfl _ _ HR_.out rfl rfl _ rfl 4 (by decide) (by rw [List.length_append]; omega) hz_ ?_
              intro v7_ w7_ HF_
              have HT7 : Hid (Tx n0 w bs (0 + 6 + i * (25 + tyK k) + 4) w7_ v7_) := hid (HT6.out.trans hds_ HF_.out.tx)
              clear HF_ HR_ hds_ hz_ HT6
              have HQ_ : Hid (Tx n0 w bs (0 + 6 + (i + 1) * (25 + tyK k)) w7_ v7_) := hid (HT7.out.mono (by omega))
              clear HT7
              go_wp2
              exact ⟨⟨i + 1, _, rfl, by go_num, by omega, HQ_⟩, by simp [intOf]; omega⟩
            · have dq8 : ((q8 : Int) == 0) = false := by simp; omega
              go_wp2_with (at_builtin; refine stopHere ?_)
              obtain ⟨ds_, hds_, hr_⟩ := HT6.out.row
              have HR_ := hid hr_
              have hz_ := Nat.le_trans h0 HT6.out.bel.size
              clear hr_
              refine (HI.out _ _ _ (HG.out.below (HT6.out.bel.mono hN)) (HT6.out.kd _ _ _ HD.out) HR_.out hz_ (by rw [List.length_append]; omega)).mono ?_
              rintro e w7_ ⟨v7_, rfl, HF_⟩
              have HT7 : Hid (Tx n0 w bs (0 + 6 + i * (25 + tyK k) + tyK k) w7_ v7_) := hid (HT6.out.trans hds_ HF_.out)
              clear HF_ HR_ hds_ hz_ HT6
              have HQ_ : Hid (Tx n0 w bs (0 + 6 + (i + 1) * (25 + tyK k)) w7_ v7_) := hid (HT7.out.mono (by omega))
              clear HT7
              go_wp2
              exact ⟨⟨i + 1, _, rfl, by go_num, by omega, HQ_⟩, by simp [intOf]; omega⟩
        · have hi1_ : 0 < i := by omega
          have d2_ : decide ((0 : Int) < (i : Int)) = true := decide_eq_true (by omega)
          have d3_ : ((i : Int) == 0) = false := by simp; omega
          go_wp2_with (at_builtin; refine stopHere ?_)
          intro _
          obtain ⟨ds_, hds_, hr_⟩ := HL.out.row
          have HR_ := hid hr_
          have hz_ := Nat.le_trans h0 HL.out.bel.size
          clear hr_
          refine wpList_app_n rfl _ _ [44] HR_.out rfl rfl _ rfl 1 rfl rfl (by rw [List.length_append]; omega) hz_ ?_
          intro v5_ w5_ HF_
          have HT5 : Hid (Tx n0 w bs (0 + 6 + i * (25 + tyK k) + 1) w5_ v5_) := hid (HL.out.trans hds_ HF_.out.tx)
          clear HF_ HR_ hds_ hz_ HL
          go_wp2_with (at_builtin; refine stopHere ?_)
          obtain ⟨ds_, hds_, hr_⟩ := HT5.out.row
          have HR_ := hid hr_
          have hz_ := Nat.le_trans h0 HT5.out.bel.size
          clear hr_
          refine (gapW (HT5.out.kd _ _ _ HD.out) hg HR_.out hz_ (by rw [List.length_append]; omega)).mono ?_
          rintro e w6_ ⟨v6_, rfl, HF_⟩
          have HT6 : Hid (Tx n0 w bs (0 + 6 + i * (25 + tyK k) + 1 + 24) w6_ v6_) := hid (HT5.out.trans hds_ HF_.out)
          clear HF_ HR_ hds_ hz_ HT5
          go_wp2_with (at_builtin; refine stopHere ?_)
          have HD_ := hid (HT6.out.kd _ _ _ HD.out)
          refine (belowW HD_.out 80 (by decide) (by omega)).mono ?_
          rintro e w7_ ⟨q8, rfl, hq8, HU_⟩
          have HT7 : Hid (Tx n0 w bs (0 + 6 + i * (25 + tyK k) + 1 + 24) w7_ v6_) := hid (HT6.out.drawn h0 hg HD_.out HU_.out)
          clear HU_ HD_ HT6
          by_cases hq8 : q8 = 0
          · subst hq8
            go_wp2_with (at_builtin; refine stopHere ?_)
            intro _
            obtain ⟨ds_, hds_, hr_⟩ := HT7.out.row
            have HR_ := hid hr_
            have hz_ := Nat.le_trans h0 HT7.out.bel.size
            clear hr_
            refine wpList_app_t rfl _ _ HR_.out rfl rfl _ rfl 4 (by decide) (by rw [List.length_append]; omega) hz_ ?_
            intro v8_ w8_ HF_
            have HT8 : Hid (Tx n0 w bs (0 + 6 + i * (25 + tyK k) + 1 + 24 + 4) w8_ v8_) := hid (HT7.out.trans hds_ HF_.out.tx)
            clear HF_ HR_ hds_ hz_ HT7
            have HQ_ : Hid (Tx n0 w bs (0 + 6 + (i + 1) * (25 + tyK k)) w8_ v8_) := hid (HT8.out.mono (by omega))
            clear HT8
            go_wp2
            exact ⟨⟨i + 1, _, rfl, by go_num, by omega, HQ_⟩, by simp [intOf]; omega⟩
          · have dq8 : ((q8 : Int) == 0) = false := by simp; omega
            go_wp2_with (at_builtin; refine stopHere ?_)
            obtain ⟨ds_, hds_, hr_⟩ := HT7.out.row
            have HR_ := hid hr_
            have hz_ := Nat.le_trans h0 HT7.out.bel.size
            clear hr_
            refine (HI.out _ _ _ (HG.out.below (HT7.out.bel.mono hN)) (HT7.out.kd _ _ _ HD.out) HR_.out hz_ (by rw [List.length_append]; omega)).mono ?_
            rintro e w8_ ⟨v8_, rfl, HF_⟩
            have HT8 : Hid (Tx n0 w bs (0 + 6 + i * (25 + tyK k) + 1 + 24 + tyK k) w8_ v8_) := hid (HT7.out.trans hds_ HF_.out)
            clear HF_ HR_ hds_ hz_ HT7
            have HQ_ : Hid (Tx n0 w bs (0 + 6 + (i + 1) * (25 + tyK k)) w8_ v8_) := hid (HT8.out.mono (by omega))
            clear HT8
            go_wp2
            exact ⟨⟨i + 1, _, rfl, by go_num, by omega, HQ_⟩, by simp [intOf]; omega⟩
    · have dn0 : ((n : Int) == 0) = false := by simp; omega
      go_upto_region 34 with fail
      go_loopw [1, 11] (fun s t wr => ∃ (i : Nat) (b : Value), s = b ∧ t = .int .u64 (i : Int) ∧ i ≤ n ∧ Hid (Tx n0 w bs (0 + 6 + i * (25 + tyK k)) wr b)) (fun _ t _ => n - (intOf t).toNat)
      case atStart => exact ⟨0, _, rfl, rfl, Nat.zero_le _, hid (HT3.out.mono (by omega))⟩
      case round =>
      obtain ⟨i, b, rfl, rfl, hi, HL⟩ := hrel
      clear HT3
      by_cases hin : i < n
      rotate_left
      · have d1_ : decide ((i : Int) < (n : Int)) = false := decide_eq_false (by omega)
        have hP_ : i * (25 + tyK k) ≤ 4 * (25 + tyK k) := Nat.mul_le_mul_right _ (by omega)
        go_wp2_with (at_builtin; refine stopHere ?_)
        intro _
        obtain ⟨ds_, hds_, hr_⟩ := HL.out.row
        have HR_ := hid hr_
        have hz_ := Nat.le_trans h0 HL.out.bel.size
        clear hr_
        refine wpList_app_n rfl _ _ [93] HR_.out rfl rfl _ rfl 1 rfl rfl (by rw [List.length_append]; omega) hz_ ?_
        intro v4_ w4_ HF_
        have HT4 : Hid (Tx n0 w bs (0 + 6 + i * (25 + tyK k) + 1) w4_ v4_) := hid (HL.out.trans hds_ HF_.out.tx)
        clear HF_ HR_ hds_ hz_ HL
        have HQ_ : Hid (Tx n0 w bs (tyK (k + 1)) w4_ v4_) := hid (HT4.out.mono (by omega))
        clear HT4
        go_wp2
        go_ret
        exact ⟨_, rfl, HQ_⟩
      have d1_ : decide ((i : Int) < (n : Int)) = true := decide_eq_true (by omega)
      have hP_ : i * (25 + tyK k) ≤ 3 * (25 + tyK k) := Nat.mul_le_mul_right _ (by omega)
      have hM_ : (i + 1) * (25 + tyK k) = i * (25 + tyK k) + (25 + tyK k) := Nat.succ_mul _ _
      have ew_ : IntKind.u64.wrap ((i : Int) + 1) = ((i + 1 : Nat) : Int) := by rw [IntKind.wrap_u64]; omega
      by_cases hi0 : i = 0
      · have hi1_ : ¬ 0 < i := by omega
        have d2_ : decide ((0 : Int) < (i : Int)) = false := decide_eq_false (by omega)
        have d3_ : ((i : Int) == 0) = true := by simp; omega
        clear hi0
        by_cases hn1 : 1 < n
        · have d4_ : decide ((1 : Int) < (n : Int)) = true := decide_eq_true (by omega)
          go_wp2_with (at_builtin; refine stopHere ?_)
          have HD_ := hid (HL.out.kd _ _ _ HD.out)
          refine (belowW HD_.out 3 (by decide) (by omega)).mono ?_
          rintro e w4_ ⟨q3, rfl, hq3, HU_⟩
          have HT4 : Hid (Tx n0 w bs (0 + 6 + i * (25 + tyK k)) w4_ u1) := hid (HL.out.drawn h0 hg HD_.out HU_.out)
          clear HU_ HD_ HL
          by_cases hq3 : q3 = 0
          · subst hq3
            go_wp2_with (at_builtin; refine stopHere ?_)
            intro _
            obtain ⟨ds_, hds_, hr_⟩ := HT4.out.row
            have HR_ := hid hr_
            have hz_ := Nat.le_trans h0 HT4.out.bel.size
            clear hr_
            refine wpList_app_t rfl _ _ HR_.out rfl rfl _ rfl 4 (by decide) (by rw [List.length_append]; omega) hz_ ?_
            intro v5_ w5_ HF_
            have HT5 : Hid (Tx n0 w bs (0 + 6 + i * (25 + tyK k) + 4) w5_ v5_) := hid (HT4.out.trans hds_ HF_.out.tx)
            clear HF_ HR_ hds_ hz_ HT4
            have HQ_ : Hid (Tx n0 w bs (0 + 6 + (i + 1) * (25 + tyK k)) w5_ v5_) := hid (HT5.out.mono (by omega))
            clear HT5
            go_wp2
            exact ⟨⟨i + 1, _, rfl, by go_num, by omega, HQ_⟩, by simp [intOf]; omega⟩
          · have dq3 : ((q3 : Int) == 0) = false := by simp; omega
            go_wp2_with (at_builtin; refine stopHere ?_)
            have HD_ := hid (HT4.out.kd _ _ _ HD.out)
            refine (belowW HD_.out 80 (by decide) (by omega)).mono ?_
            rintro e w5_ ⟨q8, rfl, hq8, HU_⟩
            have HT5 : Hid (Tx n0 w bs (0 + 6 + i * (25 + tyK k)) w5_ u1) := hid (HT4.out.drawn h0 hg HD_.out HU_.out)
            clear HU_ HD_ HT4
            by_cases hq8 : q8 = 0
            · subst hq8
              go_wp2_with (at_builtin; refine stopHere ?_)
              intro _
              obtain ⟨ds_, hds_, hr_⟩ := HT5.out.row
              have HR_ := hid hr_
              have hz_ := Nat.le_trans h0 HT5.out.bel.size
              clear hr_
              refine wpList_app_t rfl _ _ HR_.out rfl rfl _ rfl 4 (by decide) (by rw [List.length_append]; omega) hz_ ?_
              intro v6_ w6_ HF_
              have HT6 : Hid (Tx n0 w bs (0 + 6 + i * (25 + tyK k) + 4) w6_ v6_) := hid (HT5.out.trans hds_ HF_.out.tx)
              clear HF_ HR_ hds_ hz_ HT5
              have HQ_ : Hid (Tx n0 w bs (0 + 6 + (i + 1) * (25 + tyK k)) w6_ v6_) := hid (HT6.out.mono (by omega))
              clear HT6
              go_wp2
              exact ⟨⟨i + 1, _, rfl, by go_num, by omega, HQ_⟩, by simp [intOf]; omega⟩
            · have dq8 : ((q8 : Int) == 0) = false := by simp; omega
              go_wp2_with (at_builtin; refine stopHere ?_)
              obtain ⟨ds_, hds_, hr_⟩ := HT5.out.row
              have HR_ := hid hr_
              have hz_ := Nat.le_trans h0 HT5.out.bel.size
              clear hr_
              refine (HI.out _ _ _ (HG.out.below (HT5.out.bel.mono hN)) (HT5.out.kd _ _ _ HD.out) HR_.out hz_ (by rw [List.length_append]; omega)).mono ?_
              rintro e w6_ ⟨v6_, rfl, HF_⟩
              have HT6 : Hid (Tx n0 w bs (0 + 6 + i * (25 + tyK k) + tyK k) w6_ v6_) := hid (HT5.out.trans hds_ HF_.out)
              clear HF_ HR_ hds_ hz_ HT5
              have HQ_ : Hid (Tx n0 w bs (0 + 6 + (i + 1) * (25 + tyK k)) w6_ v6_) := hid (HT6.out.mono (by omega))
              clear HT6
              go_wp2
              exact ⟨⟨i + 1, _, rfl, by go_num, by omega, HQ_⟩, by simp [intOf]; omega⟩
        · have d4_ : decide ((1 : Int) < (n : Int)) = false := decide_eq_false (by omega)
          go_wp2_with (at_builtin; refine stopHere ?_)
          have HD_ := hid (HL.out.kd _ _ _ HD.out)
          refine (belowW HD_.out 80 (by decide) (by omega)).mono ?_
          rintro e w4_ ⟨q8, rfl, hq8, HU_⟩
          have HT4 : Hid (Tx n0 w bs (0 + 6 + i * (25 + tyK k)) w4_ u1) := hid (HL.out.drawn h0 hg HD_.out HU_.out)
          clear HU_ HD_ HL
          by_cases hq8 : q8 = 0
          · subst hq8
            go_wp2_with (at_builtin; refine stopHere ?_)
            intro _
            obtain ⟨ds_, hds_, hr_⟩ := HT4.out.row
            have HR_ := hid hr_
            have hz_ := Nat.le_trans h0 HT4.out.bel.size
            clear hr_
            refine wpList_app_t rfl _ _ HR_.out rfl rfl _ rfl 4 (by decide) (by rw [List.length_append]; omega) hz_ ?_
            intro v5_ w5_ HF_
            have HT5 : Hid (Tx n0 w bs (0 + 6 + i * (25 + tyK k) + 4) w5_ v5_) := hid (HT4.out.trans hds_ HF_.out.tx)
            clear HF_ HR_ hds_ hz_ HT4
            have HQ_ : Hid (Tx n0 w bs (0 + 6 + (i + 1) * (25 + tyK k)) w5_ v5_) := hid (HT5.out.mono (by omega))
            clear HT5
            go_wp2
            exact ⟨⟨i + 1, _, rfl, by go_num, by omega, HQ_⟩, by simp [intOf]; omega⟩
          · have dq8 : ((q8 : Int) == 0) = false := by simp; omega
            go_wp2_with (at_builtin; refine stopHere ?_)
            obtain ⟨ds_, hds_, hr_⟩ := HT4.out.row
            have HR_ := hid hr_
            have hz_ := Nat.le_trans h0 HT4.out.bel.size
            clear hr_
            refine (HI.out _ _ _ (HG.out.below (HT4.out.bel.mono hN)) (HT4.out.kd _ _ _ HD.out) HR_.out hz_ (by rw [List.length_append]; omega)).mono ?_
            rintro e w5_ ⟨v5_, rfl, HF_⟩
            have HT5 : Hid (Tx n0 w bs (0 + 6 + i * (25 + tyK k) + tyK k) w5_ v5_) := hid (HT4.out.trans hds_ HF_.out)
            clear HF_ HR_ hds_ hz_ HT4
            have HQ_ : Hid (Tx n0 w bs (0 + 6 + (i + 1) * (25 + tyK k)) w5_ v5_) := hid (HT5.out.mono (by omega))
            clear HT5
            go_wp2
            exact ⟨⟨i + 1, _, rfl, by go_num, by omega, HQ_⟩, by simp [intOf]; omega⟩
      · have hi1_ : 0 < i := by omega
        have d2_ : decide ((0 : Int) < (i : Int)) = true := decide_eq_true (by omega)
        have d3_ : ((i : Int) == 0) = false := by simp; omega
        go_wp2_with (at_builtin; refine stopHere ?_)
        intro _
        obtain ⟨ds_, hds_, hr_⟩ := HL.out.row
        have HR_ := hid hr_
        have hz_ := Nat.le_trans h0 HL.out.bel.size
        clear hr_
        refine wpList_app_n rfl _ _ [44] HR_.out rfl rfl _ rfl 1 rfl rfl (by rw [List.length_append]; omega) hz_ ?_
        intro v4_ w4_ HF_
        have HT4 : Hid (Tx n0 w bs (0 + 6 + i * (25 + tyK k) + 1) w4_ v4_) := hid (HL.out.trans hds_ HF_.out.tx)
        clear HF_ HR_ hds_ hz_ HL
        go_wp2_with (at_builtin; refine stopHere ?_)
        obtain ⟨ds_, hds_, hr_⟩ := HT4.out.row
        have HR_ := hid hr_
        have hz_ := Nat.le_trans h0 HT4.out.bel.size
        clear hr_
        refine (gapW (HT4.out.kd _ _ _ HD.out) hg HR_.out hz_ (by rw [List.length_append]; omega)).mono ?_
        rintro e w5_ ⟨v5_, rfl, HF_⟩
        have HT5 : Hid (Tx n0 w bs (0 + 6 + i * (25 + tyK k) + 1 + 24) w5_ v5_) := hid (HT4.out.trans hds_ HF_.out)
        clear HF_ HR_ hds_ hz_ HT4
        go_wp2_with (at_builtin; refine stopHere ?_)
        have HD_ := hid (HT5.out.kd _ _ _ HD.out)
        refine (belowW HD_.out 80 (by decide) (by omega)).mono ?_
        rintro e w6_ ⟨q8, rfl, hq8, HU_⟩
        have HT6 : Hid (Tx n0 w bs (0 + 6 + i * (25 + tyK k) + 1 + 24) w6_ v5_) := hid (HT5.out.drawn h0 hg HD_.out HU_.out)
        clear HU_ HD_ HT5
        by_cases hq8 : q8 = 0
        · subst hq8
          go_wp2_with (at_builtin; refine stopHere ?_)
          intro _
          obtain ⟨ds_, hds_, hr_⟩ := HT6.out.row
          have HR_ := hid hr_
          have hz_ := Nat.le_trans h0 HT6.out.bel.size
          clear hr_
          refine wpList_app_t rfl _ _ HR_.out rfl rfl _ rfl 4 (by decide) (by rw [List.length_append]; omega) hz_ ?_
          intro v7_ w7_ HF_
          have HT7 : Hid (Tx n0 w bs (0 + 6 + i * (25 + tyK k) + 1 + 24 + 4) w7_ v7_) := hid (HT6.out.trans hds_ HF_.out.tx)
          clear HF_ HR_ hds_ hz_ HT6
          have HQ_ : Hid (Tx n0 w bs (0 + 6 + (i + 1) * (25 + tyK k)) w7_ v7_) := hid (HT7.out.mono (by omega))
          clear HT7
          go_wp2
          exact ⟨⟨i + 1, _, rfl, by go_num, by omega, HQ_⟩, by simp [intOf]; omega⟩
        · have dq8 : ((q8 : Int) == 0) = false := by simp; omega
          go_wp2_with (at_builtin; refine stopHere ?_)
          obtain ⟨ds_, hds_, hr_⟩ := HT6.out.row
          have HR_ := hid hr_
          have hz_ := Nat.le_trans h0 HT6.out.bel.size
          clear hr_
          refine (HI.out _ _ _ (HG.out.below (HT6.out.bel.mono hN)) (HT6.out.kd _ _ _ HD.out) HR_.out hz_ (by rw [List.length_append]; omega)).mono ?_
          rintro e w7_ ⟨v7_, rfl, HF_⟩
          have HT7 : Hid (Tx n0 w bs (0 + 6 + i * (25 + tyK k) + 1 + 24 + tyK k) w7_ v7_) := hid (HT6.out.trans hds_ HF_.out)
          clear HF_ HR_ hds_ hz_ HT6
          have HQ_ : Hid (Tx n0 w bs (0 + 6 + (i + 1) * (25 + tyK k)) w7_ v7_) := hid (HT7.out.mono (by omega))
          clear HT7
          go_wp2
          exact ⟨⟨i + 1, _, rfl, by go_num, by omega, HQ_⟩, by simp [intOf]; omega⟩
  · have e1_ : decide ((c : Int) < 8) = false := decide_eq_false (by omega)
    have f1_ : ¬ c < 8 := by omega
    have e2_ : decide ((c : Int) < 14) = false := decide_eq_false (by omega)
    have f2_ : ¬ c < 14 := by omega
    have e3_ : decide ((c : Int) < 24) = false := decide_eq_false (by omega)
    have f3_ : ¬ c < 24 := by omega
    have e4_ : decide ((c : Int) < 28) = false := decide_eq_false (by omega)
    have f4_ : ¬ c < 28 := by omega
    have e5_ : decide ((c : Int) < 32) = false := decide_eq_false (by omega)
    have f5_ : ¬ c < 32 := by omega
    go_wp2_with (at_builtin; refine stopHere ?_)
    have HD_ := hid (HT1.out.kd _ _ _ HD.out)
    refine (belowW HD_.out 6 (by decide) (by omega)).mono ?_
    rintro e w2_ ⟨q, rfl, hq, HU_⟩
    have HT2 : Hid (Tx n0 w bs (0) w2_ v) := hid (HT1.out.drawn h0 hg HD_.out HU_.out)
    clear HU_ HD_ HT1
    by_cases hq0 : q = 0
    · subst hq0
      go_wp2_with (at_builtin; refine stopHere ?_)
      intro _
      obtain ⟨ds_, hds_, hr_⟩ := HT2.out.row
      have HR_ := hid hr_
      have hz_ := Nat.le_trans h0 HT2.out.bel.size
      clear hr_
      refine wpList_app_t rfl _ _ HR_.out rfl rfl _ rfl 4 (by decide) (by rw [List.length_append]; omega) hz_ ?_
      intro v3_ w3_ HF_
      have HT3 : Hid (Tx n0 w bs (0 + 4) w3_ v3_) := hid (HT2.out.trans hds_ HF_.out.tx)
      clear HF_ HR_ hds_ hz_ HT2
      have HQ_ : Hid (Tx n0 w bs (tyK (k + 1)) w3_ v3_) := hid (HT3.out.mono (by omega))
      clear HT3
      go_wp2
      go_ret
      exact ⟨_, rfl, HQ_⟩
    · have dq0 : ((q : Int) == 0) = false := by simp; omega
      go_wp2_with (at_builtin; refine stopHere ?_)
      intro _
      obtain ⟨ds_, hds_, hr_⟩ := HT2.out.row
      have HR_ := hid hr_
      have hz_ := Nat.le_trans h0 HT2.out.bel.size
      clear hr_
      refine wpList_app_t rfl _ _ HR_.out rfl rfl _ rfl 6 (by decide) (by rw [List.length_append]; omega) hz_ ?_
      intro v3_ w3_ HF_
      have HT3 : Hid (Tx n0 w bs (0 + 6) w3_ v3_) := hid (HT2.out.trans hds_ HF_.out.tx)
      clear HF_ HR_ hds_ hz_ HT2
      have HQ_ : Hid (Tx n0 w bs (tyK (k + 1)) w3_ v3_) := hid (HT3.out.mono (by omega))
      clear HT3
      go_wp2
      go_ret
      exact ⟨_, rfl, HQ_⟩
end
end Go.Proofs.Qxb6500883aGreatDoor
