/- subMag. -/
import Derived.Test.Qxb6500890aDoorTextWideSub
namespace Go.Proofs.Qxb6500890aDoor
open Go.RowKit
set_option linter.unusedSimpArgs false
set_option linter.unusedVariables false

set_option maxRecDepth 100000 in
set_option maxHeartbeats 1000000 in
theorem subMag_walk (a b : Nat) (hab : b ≤ a) (w : World) :
    Calls Tryd.prog 91 #[magV a, magV b] w fun e w' => e = .returned (magV (a - b)) ∧ Below w.heap.size w w' := by
  obtain ⟨h, hh⟩ : ∃ h, w.heap.size = h := ⟨_, rfl⟩
  have HF := hid (Four.start w (magL a) (magL b))
  rw [hh] at HF
  unfold magV
  obtain ⟨r, hr⟩ : ∃ r, magL (a - b) = r := ⟨_, rfl⟩
  rw [hr]
  have HRr := hid hr
  have HW : Hid (w.heap.size ≤ h) := hid (by omega)
  have HAB := hid hab
  clear hr hab
  have HA : Hid (magL a = [.int .u32 (dg a 0 : Nat), .int .u32 (dg a 1 : Nat), .int .u32 (dg a 2 : Nat), .int .u32 (dg a 3 : Nat)]) := hid rfl
  go_enter Tryd.func91, Tryd.ntmps91
  go_wp2
  go_loopw [6, 7] (fun c i wr => ∃ k : Nat, k ≤ 4 ∧ i = .int .i64 (k : Int) ∧ c = .int .u64 (bor a b k : Nat) ∧ Hid (Four w h (magL a) (magL b) (partL (a - b) k) wr)) (fun _ i _ => 4 - (intOf i).toNat)
  case atStart => exact ⟨0, by omega, rfl, by simp [bor, Nat.mod_one], HF⟩
  case round =>
    obtain ⟨k, hk, rfl, rfl, HQ⟩ := hrel
    by_cases hlt : k < 4
    · have ca : wr.cell? ⟨h, k, none⟩ = some (.int .u32 (dg a k : Nat)) := by rw [HQ.out.ba.cell, magL_get a hlt]; rfl
      have cb : wr.cell? ⟨h + 1, k, none⟩ = some (.int .u32 (dg b k : Nat)) := by rw [HQ.out.bb.cell, magL_get b hlt]; rfl
      have cr : wr.cell? ⟨h + 3, k, none⟩ = some (.int .u32 0) := by rw [HQ.out.br.cell, partL_get _ _ hlt]; simp
      have fr : wr.frozen? ⟨h + 3, k, none⟩ = false := HQ.out.br.frozen _
      have i1 : (k : Int) < 4 := by omega
      obtain ⟨hs1, hs2⟩ := bor_step HAB.out k
      have l1 := dg_lt a k
      have l2 := dg_lt b k
      have l3 := bor_le a b k
      generalize dg a k = x at *
      generalize dg b k = y at *
      generalize bor a b k = z at *
      by_cases hc : x < y + z
      · rw [if_pos hc] at hs1 hs2
        have HS1 := hid hs1
        have HS2 := hid hs2
        have ic : (x : Int) < (y : Int) + (z : Int) := by omega
        have dc : decide ((x : Int) < (y : Int) + (z : Int)) = true := decide_eq_true ic
        clear hs1 hs2
        go_wp2
        refine ⟨⟨k + 1, by omega, by go_num, congrArg (Value.int .u64) (by rw [HS1.out]; rfl), hid ?_⟩, by simp [intOf]; omega⟩
        have h1 := HQ.out.set (k := k) HW.out (dgV (a - b) k)
        rw [partL_set _ hlt] at h1
        have e : Value.int IntKind.u32 ((x : Int) + 4294967296 - ((y : Int) + (z : Int))) = dgV (a - b) k := by
          unfold dgV; rw [HS2.out]; congr 1; omega
        rw [e]
        exact h1
      · rw [if_neg hc] at hs1 hs2
        have HS1 := hid hs1
        have HS2 := hid hs2
        have ic : (y : Int) + (z : Int) ≤ (x : Int) := by omega
        have dc : decide ((x : Int) < (y : Int) + (z : Int)) = false := decide_eq_false (by omega)
        clear hs1 hs2
        go_wp2
        refine ⟨⟨k + 1, by omega, by go_num, congrArg (Value.int .u64) (by rw [HS1.out]; rfl), hid ?_⟩, by simp [intOf]; omega⟩
        have h1 := HQ.out.set (k := k) HW.out (dgV (a - b) k)
        rw [partL_set _ hlt] at h1
        have e : Value.int IntKind.u32 ((x : Int) - ((y : Int) + (z : Int))) = dgV (a - b) k := by
          unfold dgV; rw [HS2.out]; congr 1; omega
        rw [e]
        exact h1
    · have hk4 : k = 4 := by omega
      subst hk4
      have h4 := HQ.out
      rw [partL_four] at h4
      have HF4 := hid h4
      have r0 : wr.cell? ⟨h + 3, 0, none⟩ = some (dgV (a - b) 0) := h4.br.cell 0
      have r1 : wr.cell? ⟨h + 3, 1, none⟩ = some (dgV (a - b) 1) := h4.br.cell 1
      have r2 : wr.cell? ⟨h + 3, 2, none⟩ = some (dgV (a - b) 2) := h4.br.cell 2
      have r3 : wr.cell? ⟨h + 3, 3, none⟩ = some (dgV (a - b) 3) := h4.br.cell 3
      have z0 : wr.cell? ⟨h + 2, 0, none⟩ = some (.int .u32 0) := h4.bz.cell 0
      have z1 : wr.cell? ⟨h + 2, 1, none⟩ = some (.int .u32 0) := h4.bz.cell 1
      have z2 : wr.cell? ⟨h + 2, 2, none⟩ = some (.int .u32 0) := h4.bz.cell 2
      have z3 : wr.cell? ⟨h + 2, 3, none⟩ = some (.int .u32 0) := h4.bz.cell 3
      have q0 : wr.frozen? ⟨h + 2, 0, none⟩ = false := h4.bz.frozen 0
      have q1 : wr.frozen? ⟨h + 2, 1, none⟩ = false := h4.bz.frozen 1
      have q2 : wr.frozen? ⟨h + 2, 2, none⟩ = false := h4.bz.frozen 2
      have q3 : wr.frozen? ⟨h + 2, 3, none⟩ = false := h4.bz.frozen 3
      unfold dgV at r0 r1 r2 r3
      clear h4
      go_wp2
      obtain ⟨wz, hwz⟩ : ∃ wz, ((((wr.setCell ⟨h + 2, 0, none⟩ (dgV (a - b) 0)).setCell ⟨h + 2, 1, none⟩ (dgV (a - b) 1)).setCell ⟨h + 2, 2, none⟩ (dgV (a - b) 2)).setCell ⟨h + 2, 3, none⟩ (dgV (a - b) 3)) = wz := ⟨_, rfl⟩
      have hbz : Blk wz (h + 2) 85 (magL (a - b)) := by subst hwz; exact (((HF4.out.bz.set 0 _).set 1 _).set 2 _).set 3 _
      have hbl : Below w.heap.size w wz := by
        subst hwz
        exact HF4.out.bel.trans ((((((Upd.refl (h + 2) wr).setCell rfl _).setCell rfl _).setCell rfl _).setCell rfl _).below (by have := HW.out; omega) HF4.out.bel.size)
      have s0 : wz.cell? ⟨h + 1 + 1, 0, none⟩ = some (dgV (a - b) 0) := hbz.cell 0
      have s1 : wz.cell? ⟨h + 1 + 1, 1, none⟩ = some (dgV (a - b) 1) := hbz.cell 1
      have s2 : wz.cell? ⟨h + 1 + 1, 2, none⟩ = some (dgV (a - b) 2) := hbz.cell 2
      have s3 : wz.cell? ⟨h + 1 + 1, 3, none⟩ = some (dgV (a - b) 3) := hbz.cell 3
      rw [← HRr.out]
      have hwz' : ((((wr.setCell ⟨h + 1 + 1, 0, none⟩ (Value.int IntKind.u32 (dg (a - b) 0 : Nat))).setCell ⟨h + 1 + 1, 1, none⟩ (Value.int IntKind.u32 (dg (a - b) 1 : Nat))).setCell ⟨h + 1 + 1, 2, none⟩ (Value.int IntKind.u32 (dg (a - b) 2 : Nat))).setCell ⟨h + 1 + 1, 3, none⟩ (Value.int IntKind.u32 (dg (a - b) 3 : Nat))) = wz := hwz
      rw [hwz']
      exact bodyPost_ret (v := .agg (magL (a - b)).toArray) (by simp [results, Tryd.results91, go_sem, s0, s1, s2, s3, magL]) rfl ⟨rfl, hbl⟩
end Go.Proofs.Qxb6500890aDoor
