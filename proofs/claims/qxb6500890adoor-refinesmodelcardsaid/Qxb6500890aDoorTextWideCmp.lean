/- cmpMag. -/
import Derived.Test.Qxb6500890aDoorTextWideSubW
namespace Go.Proofs.Qxb6500890aDoor
open Go.RowKit
set_option linter.unusedSimpArgs false
set_option linter.unusedVariables false

theorem div_step (a k : Nat) : a / B32 ^ k = a / B32 ^ (k + 1) * 4294967296 + dg a k := by
  have h := Nat.div_add_mod (a / B32 ^ k) 4294967296
  rw [Nat.div_div_eq_div_mul] at h
  have e : B32 ^ k * 4294967296 = B32 ^ (k + 1) := (Nat.pow_succ ..).symm
  rw [e, Nat.mul_comm] at h
  exact h.symm

def CmpPost (a b : Nat) (w : World) (e : Ending) (w' : World) : Prop := ∃ c : Int, e = .returned (.int .i64 c) ∧ decide (0 ≤ c) = decide (b ≤ a) ∧ Below w.heap.size w w'

theorem cmp_less {a b k : Nat} (h : a / B32 ^ (k + 1) = b / B32 ^ (k + 1)) (hd : dg a k < dg b k) : ¬ b ≤ a := fun hle => by
  have h1 := div_step a k
  have h2 := div_step b k
  have h3 := Nat.div_le_div_right (c := B32 ^ k) hle
  omega
theorem cmp_more {a b k : Nat} (h : a / B32 ^ (k + 1) = b / B32 ^ (k + 1)) (hd : dg b k < dg a k) : b ≤ a := by
  have h1 := div_step a k
  have h2 := div_step b k
  rcases Nat.lt_or_ge a b with hlt | hge
  · have h3 := Nat.div_le_div_right (c := B32 ^ k) (Nat.le_of_lt hlt)
    omega
  · exact hge

set_option maxRecDepth 100000 in
set_option maxHeartbeats 1000000 in
theorem cmpMag_walk (a b : Nat) (ha : a < B32 ^ 4) (hb : b < B32 ^ 4) (w : World) :
    Calls Tryd.prog 90 #[magV a, magV b] w (CmpPost a b w) := by
  obtain ⟨h, hh⟩ : ∃ h, w.heap.size = h := ⟨_, rfl⟩
  have s1 : ∀ (x : World) (o : Obj), (x.alloc o).heap.size = x.heap.size + 1 := fun x o => by simp
  have HBl : Hid (Below w.heap.size w ((w.alloc (.cells (magL a).toArray 85)).alloc (.cells (magL b).toArray 85))) := hid (Below.alloc (Below.alloc (Below.refl _ _) (Nat.le_refl _) _) (by rw [s1]; omega) _)
  have HBa : Hid (Blk ((w.alloc (.cells (magL a).toArray 85)).alloc (.cells (magL b).toArray 85)) h 85 (magL a)) := by subst hh; exact hid ((Blk.new w (magL a) _).alloc _)
  have HBb : Hid (Blk ((w.alloc (.cells (magL a).toArray 85)).alloc (.cells (magL b).toArray 85)) (h + 1) 85 (magL b)) := by
    subst hh
    have := Blk.new (w.alloc (.cells (magL a).toArray 85)) (magL b) 85
    rw [s1] at this
    exact hid this
  have H0 : Hid (a / B32 ^ 4 = b / B32 ^ 4) := hid (by rw [Nat.div_eq_of_lt ha, Nat.div_eq_of_lt hb])
  unfold magV
  clear s1 ha hb
  go_enter Tryd.func90, Tryd.ntmps90
  go_wp2
  go_loopw [5] (fun i wr => ∃ k : Nat, k ≤ 4 ∧ i = .int .i64 ((k : Int) - 1) ∧ Hid (a / B32 ^ k = b / B32 ^ k) ∧ Hid (Below w.heap.size w wr ∧ Blk wr h 85 (magL a) ∧ Blk wr (h + 1) 85 (magL b))) (fun i _ => (intOf i + 1).toNat)
  case atStart => exact ⟨4, by omega, rfl, H0, hid ⟨HBl.out, HBa.out, HBb.out⟩⟩
  case round =>
    obtain ⟨k, hk, rfl, HE, HW⟩ := hrel
    cases k with
    | zero =>
      have d0 : decide (0 ≤ (((0 : Nat) : Int) - 1)) = false := by decide
      go_wp2
      go_ret
      refine ⟨0, rfl, ?_, HW.out.1⟩
      have e := HE.out
      simp at e
      subst e
      simp
    | succ k =>
      have e : ((k + 1 : Nat) : Int) - 1 = (k : Int) := by omega
      rw [e]
      clear e
      have ca : wr.cell? ⟨h, k, none⟩ = some (.int .u32 (dg a k : Nat)) := by rw [HW.out.2.1.cell, magL_get a (by omega)]; rfl
      have cb : wr.cell? ⟨h + 1, k, none⟩ = some (.int .u32 (dg b k : Nat)) := by rw [HW.out.2.2.cell, magL_get b (by omega)]; rfl
      have HL := hid (cmp_less (k := k) HE.out)
      have HG := hid (cmp_more (k := k) HE.out)
      have HD : Hid (a / B32 ^ k = a / B32 ^ (k + 1) * 4294967296 + dg a k ∧ b / B32 ^ k = b / B32 ^ (k + 1) * 4294967296 + dg b k) := hid ⟨div_step a k, div_step b k⟩
      have i1 : (k : Int) < 4 := by omega
      have i2 : 0 ≤ (k : Int) := by omega
      have l1 := dg_lt a k
      have l2 := dg_lt b k
      generalize dg a k = x at *
      generalize dg b k = y at *
      rcases Nat.lt_trichotomy x y with hc | hc | hc
      · have d1 : decide ((x : Int) < (y : Int)) = true := decide_eq_true (by omega)
        go_wp2
        go_quiet (fail)
        go_wp2
        go_ret
        exact ⟨-1, rfl, by rw [decide_eq_false (HL.out hc)]; rfl, HW.out.1.trans (Drew.below ⟨nq, rfl⟩ _)⟩
      · subst hc
        have d1 : decide ((x : Int) < (x : Int)) = false := decide_eq_false (by omega)
        go_wp2
        go_quiet (fail)
        go_wp2
        obtain ⟨wd, hwd⟩ : ∃ wd, wr.drewN nq = wd := ⟨_, rfl⟩
        have ea : wd.cell? ⟨h, k, none⟩ = some (.int .u32 (x : Int)) := by subst hwd; exact ca
        have eb : wd.cell? ⟨h + 1, k, none⟩ = some (.int .u32 (x : Int)) := by subst hwd; exact cb
        have HWd : Hid (Below w.heap.size w wd ∧ Blk wd h 85 (magL a) ∧ Blk wd (h + 1) 85 (magL b)) := by subst hwd; exact hid ⟨HW.out.1.trans (Drew.below ⟨nq, rfl⟩ _), HW.out.2.1.drewN nq, HW.out.2.2.drewN nq⟩
        rw [hwd]
        clear hwd ca cb
        go_quiet (fail)
        go_wp2
        refine ⟨⟨k, by omega, by go_num, hid ?_, hid ⟨HWd.out.1.trans (Drew.below ⟨_, rfl⟩ _), HWd.out.2.1.drewN _, HWd.out.2.2.drewN _⟩⟩, by simp [intOf]⟩
        have := HD.out
        have e := HE.out
        omega
      · have d1 : decide ((x : Int) < (y : Int)) = false := decide_eq_false (by omega)
        have d2 : decide ((y : Int) < (x : Int)) = true := decide_eq_true (by omega)
        go_wp2
        go_quiet (fail)
        go_wp2
        obtain ⟨wd, hwd⟩ : ∃ wd, wr.drewN nq = wd := ⟨_, rfl⟩
        have ea : wd.cell? ⟨h, k, none⟩ = some (.int .u32 (x : Int)) := by subst hwd; exact ca
        have eb : wd.cell? ⟨h + 1, k, none⟩ = some (.int .u32 (y : Int)) := by subst hwd; exact cb
        have HWd : Hid (Below w.heap.size w wd ∧ Blk wd h 85 (magL a) ∧ Blk wd (h + 1) 85 (magL b)) := by subst hwd; exact hid ⟨HW.out.1.trans (Drew.below ⟨nq, rfl⟩ _), HW.out.2.1.drewN nq, HW.out.2.2.drewN nq⟩
        rw [hwd]
        clear hwd ca cb
        go_quiet (fail)
        go_wp2
        go_ret
        exact ⟨1, rfl, by rw [decide_eq_true (HG.out hc)]; rfl, HWd.out.1.trans (Drew.below ⟨_, rfl⟩ _)⟩
end Go.Proofs.Qxb6500890aDoor
