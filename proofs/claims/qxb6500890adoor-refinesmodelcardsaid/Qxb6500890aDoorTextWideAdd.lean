/- addMag, subMag, cmpMag. -/
import Derived.Test.Qxb6500890aDoorTextWide
namespace Go.Proofs.Qxb6500890aDoor
open Go.RowKit
set_option linter.unusedSimpArgs false
set_option linter.unusedVariables false

abbrev B32 : Nat := 4294967296
/-- The first k digits of s, the others zero. -/
def partL (s k : Nat) : List Value := (List.range 4).map (fun i => if i < k then dgV s i else .int .u32 0)
theorem partL_get (s k : Nat) {i : Nat} (h : i < 4) : (partL s k)[i]? = some (if i < k then dgV s i else .int .u32 0) := by
  simp [partL, h]
theorem partL_set (s : Nat) {k : Nat} (h : k < 4) : (partL s k).set k (dgV s k) = partL s (k + 1) := by
  apply List.ext_getElem?
  intro i
  by_cases hi : i < 4
  · rw [partL_get s (k + 1) hi]
    by_cases hik : k = i
    · subst hik
      rw [List.getElem?_set_self (by simp [partL]; exact h)]
      simp
    · rw [List.getElem?_set_ne hik, partL_get s k hi]
      by_cases h2 : i < k
      · simp [h2, show i < k + 1 by omega]
      · simp [h2, show ¬ i < k + 1 by omega]
  · rw [List.getElem?_eq_none (by simp [partL]; omega), List.getElem?_eq_none (by simp [partL]; omega)]
theorem partL_zero (s : Nat) : partL s 0 = [.int .u32 0, .int .u32 0, .int .u32 0, .int .u32 0] := rfl
theorem partL_four (s : Nat) : partL s 4 = magL s := rfl

def car (a b k : Nat) : Nat := (a % B32 ^ k + b % B32 ^ k) / B32 ^ k
theorem mod_succ (a k : Nat) : a % B32 ^ (k + 1) = dg a k * B32 ^ k + a % B32 ^ k := by
  rw [Nat.pow_succ, Nat.mod_mul, dg, Nat.mul_comm, Nat.add_comm]
theorem car_step (a b k : Nat) : (dg a k + dg b k + car a b k) / B32 = car a b (k + 1) ∧ (dg a k + dg b k + car a b k) % B32 = dg (a + b) k := by
  have hp : 0 < B32 ^ k := Nat.pow_pos (by decide)
  have e1 : (a % B32 ^ (k + 1) + b % B32 ^ (k + 1)) / B32 ^ k = dg a k + dg b k + car a b k := by
    rw [mod_succ, mod_succ, show dg a k * B32 ^ k + a % B32 ^ k + (dg b k * B32 ^ k + b % B32 ^ k) = (a % B32 ^ k + b % B32 ^ k) + (dg a k + dg b k) * B32 ^ k by rw [Nat.add_mul]; omega, Nat.add_mul_div_right _ _ hp]
    unfold car
    omega
  constructor
  · rw [← e1, Nat.div_div_eq_div_mul, ← Nat.pow_succ]; rfl
  · have e2 : (a + b) / B32 ^ k = dg a k + dg b k + car a b k + (a / B32 ^ (k + 1) + b / B32 ^ (k + 1)) * B32 := by
      have ha := Nat.div_add_mod a (B32 ^ (k + 1))
      have hb := Nat.div_add_mod b (B32 ^ (k + 1))
      have : a + b = (a % B32 ^ (k + 1) + b % B32 ^ (k + 1)) + ((a / B32 ^ (k + 1) + b / B32 ^ (k + 1)) * B32) * B32 ^ k := by
        rw [Nat.mul_assoc, Nat.mul_comm B32, ← Nat.pow_succ, Nat.add_mul, Nat.mul_comm (a / _), Nat.mul_comm (b / _)]
        simp only [Nat.succ_eq_add_one]
        omega
      rw [this, Nat.add_mul_div_right _ _ hp, e1]
    unfold dg
    rw [e2, Nat.add_mul_mod_self_right]
    rfl
theorem car_le (a b k : Nat) : car a b k ≤ 1 := by
  have hp : 0 < B32 ^ k := Nat.pow_pos (by decide)
  have h1 := Nat.mod_lt a hp
  have h2 := Nat.mod_lt b hp
  unfold car
  have : (a % B32 ^ k + b % B32 ^ k) / B32 ^ k < 2 := Nat.div_lt_of_lt_mul (by omega)
  omega

/-- Blocks of the four words of a frame: two operands, the result's own, the sum. -/
structure Four (w : World) (h : Nat) (A B R : List Value) (wr : World) : Prop where
  bel : Below w.heap.size w wr
  ba : Blk wr h 85 A
  bb : Blk wr (h + 1) 85 B
  bz : Blk wr (h + 2) 85 [.int .u32 0, .int .u32 0, .int .u32 0, .int .u32 0]
  br : Blk wr (h + 3) 85 R

theorem Four.start (w : World) (A B : List Value) : Four w w.heap.size A B [.int .u32 0, .int .u32 0, .int .u32 0, .int .u32 0]
    ((((w.alloc (.cells A.toArray 85)).alloc (.cells B.toArray 85)).alloc (.cells #[.int .u32 0, .int .u32 0, .int .u32 0, .int .u32 0] 85)).alloc (.cells #[.int .u32 0, .int .u32 0, .int .u32 0, .int .u32 0] 85)) := by
  have s1 : ∀ (x : World) (o : Obj), (x.alloc o).heap.size = x.heap.size + 1 := fun x o => by simp
  refine ⟨?_, (((Blk.new w A _).alloc _).alloc _).alloc _, ?_, ?_, ?_⟩
  · exact Below.alloc (Below.alloc (Below.alloc (Below.alloc (Below.refl _ _) (Nat.le_refl _) _) (by rw [s1]; omega) _) (by rw [s1, s1]; omega) _) (by rw [s1, s1, s1]; omega) _
  · have := ((Blk.new (w.alloc (.cells A.toArray 85)) B 85).alloc (.cells #[.int .u32 0, .int .u32 0, .int .u32 0, .int .u32 0] 85)).alloc (.cells #[.int .u32 0, .int .u32 0, .int .u32 0, .int .u32 0] 85)
    rw [s1] at this
    exact this
  · have := (Blk.new ((w.alloc (.cells A.toArray 85)).alloc (.cells B.toArray 85)) [.int .u32 0, .int .u32 0, .int .u32 0, .int .u32 0] 85).alloc (.cells #[.int .u32 0, .int .u32 0, .int .u32 0, .int .u32 0] 85)
    rw [s1, s1] at this
    exact this
  · have := Blk.new (((w.alloc (.cells A.toArray 85)).alloc (.cells B.toArray 85)).alloc (.cells #[.int .u32 0, .int .u32 0, .int .u32 0, .int .u32 0] 85)) [.int .u32 0, .int .u32 0, .int .u32 0, .int .u32 0] 85
    rw [s1, s1, s1] at this
    exact this

theorem Four.below {w wr w' : World} {h : Nat} {A B R : List Value} (f : Four w h A B R wr) (hb : Below wr.heap.size wr w') : Four w h A B R w' :=
  ⟨f.bel.trans (hb.mono f.bel.size), f.ba.below hb, f.bb.below hb, f.bz.below hb, f.br.below hb⟩
theorem Four.set {w wr : World} {h k : Nat} {A B R : List Value} (f : Four w h A B R wr) (hh : w.heap.size ≤ h) (v : Value) : Four w h A B (R.set k v) (wr.setCell ⟨h + 3, k, none⟩ v) :=
  ⟨f.bel.trans ((Upd.setCell (Upd.refl (h + 3) wr) rfl v).below (by omega) f.bel.size), f.ba.setOther (by simp) v, f.bb.setOther (by simp) v, f.bz.setOther (by simp) v, f.br.set k v⟩

set_option maxRecDepth 100000 in
set_option maxHeartbeats 1000000 in
theorem addMag_walk (a b : Nat) (w : World) :
    Calls Tryd.prog 89 #[magV a, magV b] w fun e w' => e = .returned (magV (a + b)) ∧ Below w.heap.size w w' := by
  obtain ⟨h, hh⟩ : ∃ h, w.heap.size = h := ⟨_, rfl⟩
  have HF := hid (Four.start w (magL a) (magL b))
  rw [hh] at HF
  unfold magV
  obtain ⟨r, hr⟩ : ∃ r, magL (a + b) = r := ⟨_, rfl⟩
  rw [hr]
  have HRr := hid hr
  have HW : Hid (w.heap.size ≤ h) := hid (by omega)
  clear hr
  have HA : Hid (magL a = [.int .u32 (dg a 0 : Nat), .int .u32 (dg a 1 : Nat), .int .u32 (dg a 2 : Nat), .int .u32 (dg a 3 : Nat)]) := hid rfl
  go_enter Tryd.func89, Tryd.ntmps89
  go_wp2
  go_loopw [6, 7] (fun c i wr => ∃ k : Nat, k ≤ 4 ∧ i = .int .i64 (k : Int) ∧ c = .int .u64 (car a b k : Nat) ∧ Hid (Four w h (magL a) (magL b) (partL (a + b) k) wr)) (fun _ i _ => 4 - (intOf i).toNat)
  case atStart => exact ⟨0, by omega, rfl, by simp [car, Nat.mod_one], HF⟩
  case round =>
    obtain ⟨k, hk, rfl, rfl, HQ⟩ := hrel
    by_cases hlt : k < 4
    · have ca : wr.cell? ⟨h, k, none⟩ = some (.int .u32 (dg a k : Nat)) := by rw [HQ.out.ba.cell, magL_get a hlt]; rfl
      have cb : wr.cell? ⟨h + 1, k, none⟩ = some (.int .u32 (dg b k : Nat)) := by rw [HQ.out.bb.cell, magL_get b hlt]; rfl
      have cr : wr.cell? ⟨h + 3, k, none⟩ = some (.int .u32 0) := by rw [HQ.out.br.cell, partL_get _ _ hlt]; simp
      have fr : wr.frozen? ⟨h + 3, k, none⟩ = false := HQ.out.br.frozen _
      have i1 : (k : Int) < 4 := by omega
      obtain ⟨hs1, hs2⟩ := car_step a b k
      have l1 := dg_lt a k
      have l2 := dg_lt b k
      have l3 := car_le a b k
      generalize dg a k = x at *
      generalize dg b k = y at *
      generalize car a b k = z at *
      have f1 : bits .and .u64 ((x : Int) + (y : Int) + (z : Int)) 4294967295 = ((x : Int) + (y : Int) + (z : Int)) % 4294967296 := by
        have := (and_half (x + y + z)).resolve_right (by omega)
        simpa using this
      have HS1 := hid hs1
      have HS2 := hid hs2
      clear hs1 hs2
      go_wp2
      go_quiet (fail)
      go_wp2
      refine ⟨⟨k + 1, by omega, by go_num, congrArg (Value.int .u64) (by rw [← HS1.out]; simp [B32]), hid ?_⟩, by simp [intOf]; omega⟩
      have h1 := (HQ.out.below (Drew.below ⟨nq, rfl⟩ _)).set (k := k) HW.out (dgV (a + b) k)
      rw [partL_set _ hlt] at h1
      have e : Value.int IntKind.u32 (((x : Int) + (y : Int) + (z : Int)) % 4294967296) = dgV (a + b) k := by
        unfold dgV; rw [← HS2.out]; simp [B32]
      rw [e]
      exact h1
    · have hk4 : k = 4 := by omega
      subst hk4
      have h4 := HQ.out
      rw [partL_four] at h4
      have HF4 := hid h4
      have r0 : wr.cell? ⟨h + 3, 0, none⟩ = some (dgV (a + b) 0) := h4.br.cell 0
      have r1 : wr.cell? ⟨h + 3, 1, none⟩ = some (dgV (a + b) 1) := h4.br.cell 1
      have r2 : wr.cell? ⟨h + 3, 2, none⟩ = some (dgV (a + b) 2) := h4.br.cell 2
      have r3 : wr.cell? ⟨h + 3, 3, none⟩ = some (dgV (a + b) 3) := h4.br.cell 3
      have z0 : wr.cell? ⟨h + 2, 0, none⟩ = some (.int .u32 0) := h4.bz.cell 0
      have z1 : wr.cell? ⟨h + 2, 1, none⟩ = some (.int .u32 0) := h4.bz.cell 1
      have z2 : wr.cell? ⟨h + 2, 2, none⟩ = some (.int .u32 0) := h4.bz.cell 2
      have z3 : wr.cell? ⟨h + 2, 3, none⟩ = some (.int .u32 0) := h4.bz.cell 3
      have q0 : wr.frozen? ⟨h + 2, 0, none⟩ = false := h4.bz.frozen 0
      have q1 : wr.frozen? ⟨h + 2, 1, none⟩ = false := h4.bz.frozen 1
      have q2 : wr.frozen? ⟨h + 2, 2, none⟩ = false := h4.bz.frozen 2
      have q3 : wr.frozen? ⟨h + 2, 3, none⟩ = false := h4.bz.frozen 3
      unfold dgV at r0 r1 r2 r3
      clear h4
      go_wp2
      obtain ⟨wz, hwz⟩ : ∃ wz, ((((wr.setCell ⟨h + 2, 0, none⟩ (dgV (a + b) 0)).setCell ⟨h + 2, 1, none⟩ (dgV (a + b) 1)).setCell ⟨h + 2, 2, none⟩ (dgV (a + b) 2)).setCell ⟨h + 2, 3, none⟩ (dgV (a + b) 3)) = wz := ⟨_, rfl⟩
      have hbz : Blk wz (h + 2) 85 (magL (a + b)) := by subst hwz; exact (((HF4.out.bz.set 0 _).set 1 _).set 2 _).set 3 _
      have hbl : Below w.heap.size w wz := by
        subst hwz
        exact HF4.out.bel.trans ((((((Upd.refl (h + 2) wr).setCell rfl _).setCell rfl _).setCell rfl _).setCell rfl _).below (by have := HW.out; omega) HF4.out.bel.size)
      have s0 : wz.cell? ⟨h + 1 + 1, 0, none⟩ = some (dgV (a + b) 0) := hbz.cell 0
      have s1 : wz.cell? ⟨h + 1 + 1, 1, none⟩ = some (dgV (a + b) 1) := hbz.cell 1
      have s2 : wz.cell? ⟨h + 1 + 1, 2, none⟩ = some (dgV (a + b) 2) := hbz.cell 2
      have s3 : wz.cell? ⟨h + 1 + 1, 3, none⟩ = some (dgV (a + b) 3) := hbz.cell 3
      rw [← HRr.out]
      have hwz' : ((((wr.setCell ⟨h + 1 + 1, 0, none⟩ (Value.int IntKind.u32 (dg (a + b) 0 : Nat))).setCell ⟨h + 1 + 1, 1, none⟩ (Value.int IntKind.u32 (dg (a + b) 1 : Nat))).setCell ⟨h + 1 + 1, 2, none⟩ (Value.int IntKind.u32 (dg (a + b) 2 : Nat))).setCell ⟨h + 1 + 1, 3, none⟩ (Value.int IntKind.u32 (dg (a + b) 3 : Nat))) = wz := hwz
      rw [hwz']
      exact bodyPost_ret (v := .agg (magL (a + b)).toArray) (by simp [results, Tryd.results89, go_sem, s0, s1, s2, s3, magL]) rfl ⟨rfl, hbl⟩
end Go.Proofs.Qxb6500890aDoor
