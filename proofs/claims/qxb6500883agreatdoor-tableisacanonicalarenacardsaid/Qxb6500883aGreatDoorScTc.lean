/- Texts of scripts: counts (written by tools/mk_tx.py). -/
import Derived.Test.Qxb6500883aGreatDoorScTb
namespace Go.Proofs.Qxb6500883aGreatDoor
open Go.RowKit
set_option linter.unusedSimpArgs false
set_option linter.unusedVariables false
section
variable {w w' : World} {n0 : Nat} {v v' : Value} {bs : List UInt8} {g ty co N mg : Nat}
theorem exprW (hg : n0 ≤ g) (hN : N ≤ n0) : ∀ k, k ≤ 3 → ExTC n0 N mg g ty co k
  | 0, _ => expr0 hg hN
  | k + 1, h => exprS hg hN (by omega) (exprW hg hN k (by omega))
set_option maxRecDepth 100000 in
set_option maxHeartbeats 8000000 in
theorem countW (hg : n0 ≤ g) (hN : N ≤ n0) (hgl : Gl N mg w) (hd : Dw w g ty co) (hr : OwR rtB n0 w v bs) (h0 : n0 ≤ w.heap.size) (hl : bs.length ≤ 79000000000000) : Calls Tryz.prog 104 #[.pointer (some ⟨g, 0, none⟩), v] w fun e w' => ∃ v', e = .returned v' ∧ Hid (Tx n0 w bs 238 w' v') := by
  have HT0 := hid (Tx.start hr)
  have HD := hid hd
  have HG := hid hgl
  have HI := hid (exprW (mg := mg) (ty := ty) (co := co) hg hN 2 (by decide))
  have hK : exK 2 = 238 := rfl
  obtain ⟨s_, hb_, hs_, hty, hco⟩ := HD.out
  have dc : ∀ (wz : World), Dw wz g ty co → wz.cell? ⟨g, 2, none⟩ = some (.int .u64 (co : Int)) := fun wz ⟨_, hb, _⟩ => hb.cell 2
  clear hr hd hgl hb_ hs_
  go_enter Tryz.func104, Tryz.ntmps104
  go_wp2_with (at_builtin; refine stopHere ?_)
  have HD_ := hid (HT0.out.kd _ _ _ HD.out)
  refine (belowW HD_.out 32 (by decide) (by omega)).mono ?_
  rintro e w1_ ⟨c, rfl, hc, HU_⟩
  have HT1 : Hid (Tx n0 w bs (0) w1_ v) := hid (HT0.out.drawn h0 hg HD_.out HU_.out)
  clear HU_ HD_ HT0
  obtain rfl | ⟨h1_, h2_⟩ | ⟨h1_, h2_⟩ | ⟨h1_, h2_⟩ | ⟨h1_, h2_⟩ | ⟨h1_, h2_⟩ | h1_ : c = 0 ∨ (1 ≤ c ∧ c < 18) ∨ (18 ≤ c ∧ c < 22) ∨ (22 ≤ c ∧ c < 25) ∨ (25 ≤ c ∧ c < 27) ∨ (27 ≤ c ∧ c < 29) ∨ 29 ≤ c := by omega
  · go_wp2_with (at_builtin; refine stopHere ?_)
    intro _
    obtain ⟨ds_, hds_, hr_⟩ := HT1.out.row
    have HR_ := hid hr_
    have hz_ := Nat.le_trans h0 HT1.out.bel.size
    clear hr_
    refine wpList_app_n rfl _ _ [48] HR_.out rfl rfl _ rfl 1 rfl rfl (by rw [List.length_append]; omega) hz_ ?_
    intro v2_ w2_ HF_
    have HT2 : Hid (Tx n0 w bs (0 + 1) w2_ v2_) := hid (HT1.out.trans hds_ HF_.out.tx)
    clear HF_ HR_ hds_ hz_ HT1
    have HQ_ : Hid (Tx n0 w bs (238) w2_ v2_) := hid (HT2.out.mono (by omega))
    clear HT2
    go_wp2
    go_ret
    exact ⟨_, rfl, HQ_⟩
  · have e0_ : ((c : Int) == 0) = false := by simp; omega
    have e1_ : decide ((c : Int) < 18) = true := decide_eq_true (by omega)
    have f1_ : c < 18 := by omega
    go_wp2_with (at_builtin; refine stopHere ?_)
    have HD_ := hid (HT1.out.kd _ _ _ HD.out)
    refine (belowW HD_.out 9 (by decide) (by omega)).mono ?_
    rintro e w2_ ⟨q, rfl, hq, HU_⟩
    have HT2 : Hid (Tx n0 w bs (0) w2_ v) := hid (HT1.out.drawn h0 hg HD_.out HU_.out)
    clear HU_ HD_ HT1
    obtain ⟨m, em, hm⟩ : ∃ m : Nat, IntKind.u64.wrap (1 + (q : Int)) = (m : Int) ∧ m < 10 := ⟨1 + q, by rw [IntKind.wrap_u64]; omega, by omega⟩
    go_wp2_with (at_builtin; refine stopHere ?_)
    obtain ⟨ds_, hds_, hr_⟩ := HT2.out.row
    have HR_ := hid hr_
    have hz_ := Nat.le_trans h0 HT2.out.bel.size
    clear hr_
    refine (appendNumberW 10 (by decide) 0 m (by omega) (by omega) HR_.out hz_ (by rw [List.length_append]; omega)).mono ?_
    rintro e w3_ ⟨v3_, rfl, HF_⟩
    have HT3 : Hid (Tx n0 w bs (0 + 1) w3_ v3_) := hid (HT2.out.trans hds_ HF_.out.tx)
    clear HF_ HR_ hds_ hz_ HT2
    have HQ_ : Hid (Tx n0 w bs (238) w3_ v3_) := hid (HT3.out.mono (by omega))
    clear HT3
    go_wp2
    go_ret
    exact ⟨_, rfl, HQ_⟩
  · have e0_ : ((c : Int) == 0) = false := by simp; omega
    have e1_ : decide ((c : Int) < 18) = false := decide_eq_false (by omega)
    have f1_ : ¬ c < 18 := by omega
    have e2_ : decide ((c : Int) < 22) = true := decide_eq_true (by omega)
    have f2_ : c < 22 := by omega
    have c2_ := dc _ (HT1.out.kd _ _ _ HD.out)
    by_cases hc0 : co = 0
    · subst hc0
      go_wp2_with (at_builtin; refine stopHere ?_)
      have HD_ := hid (HT1.out.kd _ _ _ HD.out)
      refine (belowW HD_.out 40 (by decide) (by omega)).mono ?_
      rintro e w2_ ⟨q, rfl, hq, HU_⟩
      have HT2 : Hid (Tx n0 w bs (0) w2_ v) := hid (HT1.out.drawn h0 hg HD_.out HU_.out)
      clear HU_ HD_ HT1
      obtain ⟨m, em, hm⟩ : ∃ m : Nat, IntKind.u64.wrap (1 + (q : Int)) = (m : Int) ∧ m < 41 := ⟨1 + q, by rw [IntKind.wrap_u64]; omega, by omega⟩
      go_wp2_with (at_builtin; refine stopHere ?_)
      obtain ⟨ds_, hds_, hr_⟩ := HT2.out.row
      have HR_ := hid hr_
      have hz_ := Nat.le_trans h0 HT2.out.bel.size
      clear hr_
      refine (appendNumberW 10 (by decide) 1 m (by omega) (by omega) HR_.out hz_ (by rw [List.length_append]; omega)).mono ?_
      rintro e w3_ ⟨v3_, rfl, HF_⟩
      have HT3 : Hid (Tx n0 w bs (0 + 2) w3_ v3_) := hid (HT2.out.trans hds_ HF_.out.tx)
      clear HF_ HR_ hds_ hz_ HT2
      have HQ_ : Hid (Tx n0 w bs (238) w3_ v3_) := hid (HT3.out.mono (by omega))
      clear HT3
      go_wp2
      go_ret
      exact ⟨_, rfl, HQ_⟩
    · have dq_ : decide ((0 : Int) < (co : Int)) = true := decide_eq_true (by omega)
      have dq2_ : 0 < co := by omega
      go_wp2_with (at_builtin; refine stopHere ?_)
      have HD_ := hid (HT1.out.kd _ _ _ HD.out)
      refine (belowW HD_.out co (by omega) (by omega)).mono ?_
      rintro e w2_ ⟨q, rfl, hq, HU_⟩
      have HT2 : Hid (Tx n0 w bs (0) w2_ v) := hid (HT1.out.drawn h0 hg HD_.out HU_.out)
      clear HU_ HD_ HT1
      go_wp2_with (at_builtin; refine stopHere ?_)
      refine (constNameW q (by omega) _).mono ?_
      rintro e w3_ ⟨s, rfl, hs, HB_⟩
      have HT3 : Hid (Tx n0 w bs (0) w3_ v) := hid (HT2.out.below h0 HB_.out)
      clear HB_ HT2
      go_wp2_with (at_builtin; refine stopHere ?_)
      intro _
      obtain ⟨ds_, hds_, hr_⟩ := HT3.out.row
      have HR_ := hid hr_
      have hz_ := Nat.le_trans h0 HT3.out.bel.size
      clear hr_
      refine wpList_app_t rfl _ _ HR_.out rfl rfl _ rfl 2 (hs) (by rw [List.length_append]; omega) hz_ ?_
      intro v4_ w4_ HF_
      have HT4 : Hid (Tx n0 w bs (0 + 2) w4_ v4_) := hid (HT3.out.trans hds_ HF_.out.tx)
      clear HF_ HR_ hds_ hz_ HT3
      have HQ_ : Hid (Tx n0 w bs (238) w4_ v4_) := hid (HT4.out.mono (by omega))
      clear HT4
      go_wp2
      go_ret
      exact ⟨_, rfl, HQ_⟩
  · have e0_ : ((c : Int) == 0) = false := by simp; omega
    have e1_ : decide ((c : Int) < 18) = false := decide_eq_false (by omega)
    have f1_ : ¬ c < 18 := by omega
    have e2_ : decide ((c : Int) < 22) = false := decide_eq_false (by omega)
    have f2_ : ¬ c < 22 := by omega
    have e3_ : decide ((c : Int) < 25) = true := decide_eq_true (by omega)
    have f3_ : c < 25 := by omega
    go_wp2_with (at_builtin; refine stopHere ?_)
    have HD_ := hid (HT1.out.kd _ _ _ HD.out)
    refine (belowW HD_.out 14 (by decide) (by omega)).mono ?_
    rintro e w2_ ⟨q, rfl, hq, HU_⟩
    have HT2 : Hid (Tx n0 w bs (0) w2_ v) := hid (HT1.out.drawn h0 hg HD_.out HU_.out)
    clear HU_ HD_ HT1
    go_wp2_with (at_builtin; refine stopHere ?_)
    refine (numTxW 1 q (by omega) (by omega) (by omega) _).mono ?_
    rintro e w3_ ⟨s, rfl, hs, HB_⟩
    have HT3 : Hid (Tx n0 w bs (0) w3_ v) := hid (HT2.out.below h0 HB_.out)
    clear HB_ HT2
    go_wp2_with (at_builtin; refine stopHere ?_)
    intro _
    obtain ⟨ds_, hds_, hr_⟩ := HT3.out.row
    have HR_ := hid hr_
    have hz_ := Nat.le_trans h0 HT3.out.bel.size
    clear hr_
    refine wpList_app_t rfl _ _ HR_.out rfl rfl _ rfl 5 (by rw [ByteArray.size_append]; have e1 : (⟨#[50, 42, 42]⟩ : ByteArray).size = 3 := rfl; omega) (by rw [List.length_append]; omega) hz_ ?_
    intro v4_ w4_ HF_
    have HT4 : Hid (Tx n0 w bs (0 + 5) w4_ v4_) := hid (HT3.out.trans hds_ HF_.out.tx)
    clear HF_ HR_ hds_ hz_ HT3
    have HQ_ : Hid (Tx n0 w bs (238) w4_ v4_) := hid (HT4.out.mono (by omega))
    clear HT4
    go_wp2
    go_ret
    exact ⟨_, rfl, HQ_⟩
  · have e0_ : ((c : Int) == 0) = false := by simp; omega
    have e1_ : decide ((c : Int) < 18) = false := decide_eq_false (by omega)
    have f1_ : ¬ c < 18 := by omega
    have e2_ : decide ((c : Int) < 22) = false := decide_eq_false (by omega)
    have f2_ : ¬ c < 22 := by omega
    have e3_ : decide ((c : Int) < 25) = false := decide_eq_false (by omega)
    have f3_ : ¬ c < 25 := by omega
    have e4_ : decide ((c : Int) < 27) = true := decide_eq_true (by omega)
    have f4_ : c < 27 := by omega
    obtain ⟨gb, go, gc, hS0⟩ := (HG.out.below (HT1.out.bel.mono hN)).la
    go_upto_region 13 with fail
    have HS_ : Hid (SRow N 1 laL (w1_.drew) gb go gc) := hid ⟨hS0.lt, hS0.c, hS0.row⟩
    have HT2 : Hid (Tx n0 w bs (0) w1_.drew v) := hid (HT1.out.below h0 (Drew.below ⟨1, rfl⟩ _))
    clear hS0 HT1
    refine wp_region_hlh (fun wz => SRow N 1 laL wz gb go gc) 10 [0, 1, 2, 3, 4, 5] [6] [7, 8] [9] rfl (by kernel_rfl) (by kernel_rfl) (fun d _ _ _ _ h => by cases d <;> exact h) HS_.out ?_
    apply Exists.intro
    refine ⟨?_, ?_⟩
    · intro W hW
      have q1 : ∀ z, (W z).cell? ⟨1, 0, none⟩ = some (.slice (some ⟨gb, go, none⟩) 32 gc) := fun z => (hW z).c
      clear hW
      simp only [List.take, opsAt, List.drop, List.cons_append, List.nil_append]
      repeat (go_big_quiet_step (fail))
      exact rfl
    simp only [List.take, List.drop, opsAt, List.cons_append, List.nil_append, wpHvK]
    generalize w1_.drew = w2_ at HS_ HT2 ⊢
    have HD_ := hid (HT2.out.kd _ _ _ HD.out)
    go_wp2_with fail
    refine (belowW HD_.out 32 (by decide) (by omega)).mono ?_
    rintro e w3_ ⟨r2, rfl, hr2, HU_⟩
    have HT3 : Hid (Tx n0 w bs (0) w3_ v) := hid (HT2.out.drawn h0 hg HD_.out HU_.out)
    have HS2_ : Hid (SRow N 1 laL w3_ gb go gc) := hid (HS_.out.below (by have := HG.out.n6; omega) (HU_.out.1.below (Nat.le_trans hN hg) (Nat.le_trans (Nat.le_trans hN h0) HT2.out.bel.size)))
    clear HU_ HD_ HS_ HT2
    obtain ⟨s, hs, hsz⟩ : ∃ s, laL[r2]? = some s ∧ s.size ≤ 20 := ⟨_, List.getElem?_eq_getElem (show r2 < laL.length from hr2), laL_sz _ (List.getElem_mem _)⟩
    have i1 : (r2 : Int) < 32 := by omega
    go_wp2_with fail
    refine ⟨HS2_.out, ?_⟩
    apply Exists.intro
    refine ⟨?_, ?_⟩
    · intro W hW
      have q2 : ∀ z, (W z).cell? ⟨gb, go + r2, none⟩ = some (.string s) := fun z => (hW z).row r2 s hs
      clear hW
      (try simp only [List.take, opsAt, List.drop, List.cons_append, List.nil_append])
      repeat (go_big_quiet_step (fail))
      exact rfl
    (try simp only [wpHv, opsAt, List.take, List.drop, List.cons_append, List.nil_append])
    obtain ⟨ds_, hds_, hr_⟩ := HT3.out.row
    have HR_ := hid hr_
    have hz_ := Nat.le_trans h0 HT3.out.bel.size
    clear hr_
    refine wpList_app_t rfl _ _ HR_.out rfl rfl _ rfl 20 (hsz) (by rw [List.length_append]; omega) hz_ ?_
    intro v4_ w4_ HF_
    have HS3_ : Hid (SRow N 1 laL w4_ gb go gc) := hid (HS2_.out.below (by have := HG.out.n6; omega) (HF_.out.bel.mono hN))
    have HT4 : Hid (Tx n0 w bs (0 + 20) w4_ v4_) := hid (HT3.out.trans hds_ HF_.out.tx)
    clear HF_ HR_ hds_ hz_ HT3
    clear HS2_
    refine ⟨HS3_.out, ?_⟩
    simp only [QN]
    clear HS3_
    have HQ_ : Hid (Tx n0 w bs (238) w4_ v4_) := hid (HT4.out.mono (by omega))
    clear HT4
    go_wp2
    go_ret
    exact ⟨_, rfl, HQ_⟩
  · have e0_ : ((c : Int) == 0) = false := by simp; omega
    have e1_ : decide ((c : Int) < 18) = false := decide_eq_false (by omega)
    have f1_ : ¬ c < 18 := by omega
    have e2_ : decide ((c : Int) < 22) = false := decide_eq_false (by omega)
    have f2_ : ¬ c < 22 := by omega
    have e3_ : decide ((c : Int) < 25) = false := decide_eq_false (by omega)
    have f3_ : ¬ c < 25 := by omega
    have e4_ : decide ((c : Int) < 27) = false := decide_eq_false (by omega)
    have f4_ : ¬ c < 27 := by omega
    have e5_ : decide ((c : Int) < 29) = true := decide_eq_true (by omega)
    have f5_ : c < 29 := by omega
    go_wp2_with (at_builtin; refine stopHere ?_)
    have HD_ := hid (HT1.out.kd _ _ _ HD.out)
    refine (belowW HD_.out 600 (by decide) (by omega)).mono ?_
    rintro e w2_ ⟨q, rfl, hq, HU_⟩
    have HT2 : Hid (Tx n0 w bs (0) w2_ v) := hid (HT1.out.drawn h0 hg HD_.out HU_.out)
    clear HU_ HD_ HT1
    obtain ⟨m, em, hm⟩ : ∃ m : Nat, IntKind.u64.wrap (250 + (q : Int)) = (m : Int) ∧ m < 850 := ⟨250 + q, by rw [IntKind.wrap_u64]; omega, by omega⟩
    go_wp2_with (at_builtin; refine stopHere ?_)
    obtain ⟨ds_, hds_, hr_⟩ := HT2.out.row
    have HR_ := hid hr_
    have hz_ := Nat.le_trans h0 HT2.out.bel.size
    clear hr_
    refine (appendNumberW 10 (by decide) 2 m (by omega) (by omega) HR_.out hz_ (by rw [List.length_append]; omega)).mono ?_
    rintro e w3_ ⟨v3_, rfl, HF_⟩
    have HT3 : Hid (Tx n0 w bs (0 + 3) w3_ v3_) := hid (HT2.out.trans hds_ HF_.out.tx)
    clear HF_ HR_ hds_ hz_ HT2
    have HQ_ : Hid (Tx n0 w bs (238) w3_ v3_) := hid (HT3.out.mono (by omega))
    clear HT3
    go_wp2
    go_ret
    exact ⟨_, rfl, HQ_⟩
  · have e0_ : ((c : Int) == 0) = false := by simp; omega
    have e1_ : decide ((c : Int) < 18) = false := decide_eq_false (by omega)
    have f1_ : ¬ c < 18 := by omega
    have e2_ : decide ((c : Int) < 22) = false := decide_eq_false (by omega)
    have f2_ : ¬ c < 22 := by omega
    have e3_ : decide ((c : Int) < 25) = false := decide_eq_false (by omega)
    have f3_ : ¬ c < 25 := by omega
    have e4_ : decide ((c : Int) < 27) = false := decide_eq_false (by omega)
    have f4_ : ¬ c < 27 := by omega
    have e5_ : decide ((c : Int) < 29) = false := decide_eq_false (by omega)
    have f5_ : ¬ c < 29 := by omega
    go_wp2_with (at_builtin; refine stopHere ?_)
    obtain ⟨ds_, hds_, hr_⟩ := HT1.out.row
    have HR_ := hid hr_
    have hz_ := Nat.le_trans h0 HT1.out.bel.size
    clear hr_
    refine (HI.out _ _ _ (HG.out.below (HT1.out.bel.mono hN)) (HT1.out.kd _ _ _ HD.out) HR_.out hz_ (by rw [List.length_append]; omega)).mono ?_
    rintro e w2_ ⟨v2_, rfl, HF_⟩
    have HT2 : Hid (Tx n0 w bs (0 + exK 2) w2_ v2_) := hid (HT1.out.trans hds_ HF_.out)
    clear HF_ HR_ hds_ hz_ HT1
    have HQ_ : Hid (Tx n0 w bs (238) w2_ v2_) := hid (HT2.out.mono (by omega))
    clear HT2
    go_wp2
    go_ret
    exact ⟨_, rfl, HQ_⟩
end
end Go.Proofs.Qxb6500883aGreatDoor
