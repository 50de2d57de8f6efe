/- mulMag. -/
import Derived.Test.Qxb6500890aDoorTextWideCmp
namespace Go.Proofs.Qxb6500890aDoor
open Go.RowKit
set_option linter.unusedSimpArgs false
set_option linter.unusedVariables false

def inn (a b i : Nat) (r : List Nat) : Nat → List Nat × Nat
  | 0 => (r, 0)
  | j + 1 => ((inn a b i r j).1.set (i + j) ((dg a i * dg b j + (inn a b i r j).1.getD (i + j) 0 + (inn a b i r j).2) % 4294967296), (dg a i * dg b j + (inn a b i r j).1.getD (i + j) 0 + (inn a b i r j).2) / 4294967296)
def out (a b : Nat) : Nat → List Nat
  | 0 => [0, 0, 0, 0]
  | i + 1 => (inn a b i (out a b i) 2).1.set (i + 2) (inn a b i (out a b i) 2).2

def Ok4 (r : List Nat) : Prop := r.length = 4 ∧ ∀ d ∈ r, d < 4294967296
theorem Ok4.set {r : List Nat} (h : Ok4 r) (i : Nat) {d : Nat} (hd : d < 4294967296) : Ok4 (r.set i d) := by
  refine ⟨by rw [List.length_set]; exact h.1, fun x hx => ?_⟩
  rcases List.mem_or_eq_of_mem_set hx with h1 | rfl
  · exact h.2 x h1
  · exact hd
theorem Ok4.get {r : List Nat} (h : Ok4 r) (i : Nat) : r.getD i 0 < 4294967296 := by
  rw [List.getD_eq_getElem?_getD]
  cases hx : r[i]? with
  | none => simp
  | some x => exact h.2 x (List.mem_of_getElem? hx)
theorem mul_bound {x y r c : Nat} (hx : x < 4294967296) (hy : y < 4294967296) (hr : r < 4294967296) (hc : c < 4294967296) : x * y + r + c < 18446744073709551616 := by
  have h := Nat.mul_le_mul (show x ≤ 4294967295 by omega) (show y ≤ 4294967295 by omega)
  omega
theorem inn_ok {a b i : Nat} {r : List Nat} (h : Ok4 r) : ∀ j, Ok4 (inn a b i r j).1 ∧ (inn a b i r j).2 < 4294967296
  | 0 => ⟨h, by simp [inn]⟩
  | j + 1 => by
    obtain ⟨h1, h2⟩ := inn_ok (a := a) (b := b) (i := i) h j
    have hb := mul_bound (dg_lt a i) (dg_lt b j) (h1.get (i + j)) h2
    refine ⟨?_, ?_⟩
    · simp only [inn]
      exact h1.set _ (Nat.mod_lt _ (by decide))
    · simp only [inn]
      omega
theorem out_ok (a b : Nat) : ∀ i, Ok4 (out a b i)
  | 0 => ⟨rfl, fun d hd => by simp [out] at hd; omega⟩
  | i + 1 => by
    obtain ⟨h1, h2⟩ := inn_ok (a := a) (b := b) (i := i) (out_ok a b i) 2
    exact h1.set _ h2

theorem out_two {a b : Nat} (ha : a < 18446744073709551616) (hb : b < 18446744073709551616) : out a b 2 = [dg (a * b) 0, dg (a * b) 1, dg (a * b) 2, dg (a * b) 3] := by
  have ea : a = dg a 0 + 4294967296 * dg a 1 := by rw [dg0, dg1]; omega
  have eb : b = dg b 0 + 4294967296 * dg b 1 := by rw [dg0, dg1]; omega
  have la0 := dg_lt a 0
  have la1 := dg_lt a 1
  have lb0 := dg_lt b 0
  have lb1 := dg_lt b 1
  have e : a * b = dg a 0 * dg b 0 + 4294967296 * (dg a 0 * dg b 1 + dg a 1 * dg b 0) + 18446744073709551616 * (dg a 1 * dg b 1) := by
    conv => lhs; rw [ea, eb]
    rw [Nat.add_mul, Nat.mul_add, Nat.mul_add, Nat.mul_assoc, Nat.mul_assoc, Nat.mul_left_comm (dg a 0), Nat.mul_left_comm (dg a 1)]
    omega
  have m1 := Nat.mul_le_mul (show dg a 0 ≤ 4294967295 by omega) (show dg b 0 ≤ 4294967295 by omega)
  have m2 := Nat.mul_le_mul (show dg a 0 ≤ 4294967295 by omega) (show dg b 1 ≤ 4294967295 by omega)
  have m3 := Nat.mul_le_mul (show dg a 1 ≤ 4294967295 by omega) (show dg b 0 ≤ 4294967295 by omega)
  have m4 := Nat.mul_le_mul (show dg a 1 ≤ 4294967295 by omega) (show dg b 1 ≤ 4294967295 by omega)
  rw [dg0 (a * b), dg1 (a * b), dg2 (a * b), dg3 (a * b), e]
  simp only [out, inn]
  simp
  generalize dg a 0 * dg b 0 = p at *
  generalize dg a 0 * dg b 1 = q at *
  generalize dg a 1 * dg b 0 = r at *
  generalize dg a 1 * dg b 1 = s at *
  clear e ea eb
  refine ⟨?_, ?_, ?_, ?_⟩ <;> omega

def u32L (r : List Nat) : List Value := r.map (fun d : Nat => .int .u32 (d : Int))
theorem u32L_get {r : List Nat} (h : Ok4 r) {i : Nat} (hi : i < 4) : (u32L r)[i]? = some (.int .u32 (r.getD i 0 : Nat)) := by
  have hl : i < r.length := by rw [h.1]; exact hi
  simp [u32L, List.getD_eq_getElem?_getD, hl]
theorem u32L_set (r : List Nat) (i d : Nat) : (u32L r).set i (.int .u32 (d : Int)) = u32L (r.set i d) := by
  simp [u32L, List.map_set]

set_option maxRecDepth 100000 in
set_option maxHeartbeats 2000000 in
theorem mulMag_walk (a b : Nat) (ha : a < 18446744073709551616) (hb : b < 18446744073709551616) (w : World) :
    Calls Tryd.prog 92 #[magV a, magV b] w fun e w' => e = .returned (magV (a * b)) ∧ Below w.heap.size w w' := by
  obtain ⟨h, hh⟩ : ∃ h, w.heap.size = h := ⟨_, rfl⟩
  have HF := hid (Four.start w (magL a) (magL b))
  rw [hh] at HF
  unfold magV
  obtain ⟨r, hr⟩ : ∃ r, magL (a * b) = r := ⟨_, rfl⟩
  rw [hr]
  have HRr := hid hr
  have HW : Hid (w.heap.size ≤ h) := hid (by omega)
  have HO2 := hid (out_two ha hb)
  clear hr ha hb
  go_enter Tryd.func92, Tryd.ntmps92
  go_wp2
  go_loopw [6] (fun i wr => ∃ k : Nat, k ≤ 2 ∧ i = .int .i64 (k : Int) ∧ Hid (Four w h (magL a) (magL b) (u32L (out a b k)) wr)) (fun i _ => 2 - (intOf i).toNat)
  case atStart => exact ⟨0, by omega, rfl, HF⟩
  case round =>
    obtain ⟨i, hi, rfl, HQ⟩ := hrel
    by_cases hlt : i < 2
    · have di : decide ((i : Int) < 2) = true := decide_eq_true (by omega)
      go_wp2
      go_loopw [7, 8] (fun c j wr => ∃ k : Nat, k ≤ 2 ∧ j = .int .i64 (k : Int) ∧ c = .int .u64 ((inn a b i (out a b i) k).2 : Nat) ∧ Hid (Four w h (magL a) (magL b) (u32L (inn a b i (out a b i) k).1) wr)) (fun _ j _ => 2 - (intOf j).toNat)
      case atStart => exact ⟨0, by omega, rfl, rfl, HQ⟩
      case round =>
        obtain ⟨j, hj, rfl, rfl, HQ⟩ := hrel
        obtain ⟨ho1, ho2⟩ := inn_ok (a := a) (b := b) (i := i) (out_ok a b i) j
        by_cases hlj : j < 2
        · have hn1 : (inn a b i (out a b i) (j + 1)).1 = (inn a b i (out a b i) j).1.set (i + j) ((dg a i * dg b j + (inn a b i (out a b i) j).1.getD (i + j) 0 + (inn a b i (out a b i) j).2) % 4294967296) := rfl
          have hn2 : (inn a b i (out a b i) (j + 1)).2 = (dg a i * dg b j + (inn a b i (out a b i) j).1.getD (i + j) 0 + (inn a b i (out a b i) j).2) / 4294967296 := rfl
          have HN1 := hid hn1
          have HN2 := hid hn2
          have ca : wr.cell? ⟨h, i, none⟩ = some (.int .u32 (dg a i : Nat)) := by rw [HQ.out.ba.cell, magL_get a (by omega)]; rfl
          have cb : wr.cell? ⟨h + 1, j, none⟩ = some (.int .u32 (dg b j : Nat)) := by rw [HQ.out.bb.cell, magL_get b (by omega)]; rfl
          have cr : wr.cell? ⟨h + 3, i + j, none⟩ = some (.int .u32 ((inn a b i (out a b i) j).1.getD (i + j) 0 : Nat)) := by rw [HQ.out.br.cell, u32L_get ho1 (by omega)]
          have fr : wr.frozen? ⟨h + 3, i + j, none⟩ = false := HQ.out.br.frozen _
          have i1 : (i : Int) < 4 := by omega
          have i2 : (j : Int) < 4 := by omega
          have i3 : (i : Int) + (j : Int) < 4 := by omega
          have l1 := dg_lt a i
          have l2 := dg_lt b j
          have l3 := ho1.get (i + j)
          have hmb := mul_bound l1 l2 l3 ho2
          have hmm := Nat.mul_le_mul (show dg a i ≤ 4294967295 by omega) (show dg b j ≤ 4294967295 by omega)
          have HOk := hid ho1
          clear hn1 hn2 ho1
          generalize (inn a b i (out a b i) j).1.getD (i + j) 0 = y at *
          generalize (inn a b i (out a b i) j).2 = z at *
          generalize dg a i = x1 at *
          generalize dg b j = x2 at *
          obtain ⟨m, hm⟩ : ∃ m, x1 * x2 = m := ⟨_, rfl⟩
          have hmi : (x1 : Int) * (x2 : Int) = (m : Int) := by rw [← hm]; simp
          rw [hm] at HN1 HN2 hmb hmm
          have f1 : bits .and .u64 ((m : Int) + (y : Int) + (z : Int)) 4294967295 = ((m : Int) + (y : Int) + (z : Int)) % 4294967296 := by
            have := (and_half (m + y + z)).resolve_right (by omega)
            simpa using this
          clear hm
          go_wp2
          go_quiet (fail)
          go_wp2
          refine ⟨⟨j + 1, by omega, by go_num, congrArg (Value.int .u64) (by rw [HN2.out]; simp), hid ?_⟩, by simp [intOf]; omega⟩
          have h1 := (HQ.out.below (Drew.below ⟨nq, rfl⟩ _)).set (k := i + j) HW.out (.int .u32 (((m + y + z) % 4294967296 : Nat) : Int))
          rw [u32L_set] at h1
          rw [HN1.out]
          simpa using h1
        · have hj2 : j = 2 := by omega
          subst hj2
          have cr : wr.cell? ⟨h + 3, i + 2, none⟩ = some (.int .u32 ((inn a b i (out a b i) 2).1.getD (i + 2) 0 : Nat)) := by rw [HQ.out.br.cell, u32L_get ho1 (by omega)]
          have fr : wr.frozen? ⟨h + 3, i + 2, none⟩ = false := HQ.out.br.frozen _
          have i3 : (i : Int) + 2 < 4 := by omega
          have HN : Hid (out a b (i + 1) = (inn a b i (out a b i) 2).1.set (i + 2) (inn a b i (out a b i) 2).2) := hid rfl
          clear ho1
          generalize (inn a b i (out a b i) 2).2 = z at *
          generalize (inn a b i (out a b i) 2).1.getD (i + 2) 0 = y at *
          go_wp2
          refine ⟨⟨i + 1, by omega, by go_num, hid ?_⟩, by simp [intOf]; omega⟩
          have h1 := HQ.out.set (k := i + 2) HW.out (.int .u32 (z : Int))
          rw [u32L_set] at h1
          rw [HN.out]
          exact h1
    · have hk2 : i = 2 := by omega
      subst hk2
      have h4 := HQ.out
      have ho : u32L (out a b 2) = magL (a * b) := by rw [HO2.out]; rfl
      rw [ho] at h4
      have HF4 := hid h4
      have r0 : wr.cell? ⟨h + 3, 0, none⟩ = some (dgV (a * b) 0) := h4.br.cell 0
      have r1 : wr.cell? ⟨h + 3, 1, none⟩ = some (dgV (a * b) 1) := h4.br.cell 1
      have r2 : wr.cell? ⟨h + 3, 2, none⟩ = some (dgV (a * b) 2) := h4.br.cell 2
      have r3 : wr.cell? ⟨h + 3, 3, none⟩ = some (dgV (a * b) 3) := h4.br.cell 3
      have z0 : wr.cell? ⟨h + 2, 0, none⟩ = some (.int .u32 0) := h4.bz.cell 0
      have z1 : wr.cell? ⟨h + 2, 1, none⟩ = some (.int .u32 0) := h4.bz.cell 1
      have z2 : wr.cell? ⟨h + 2, 2, none⟩ = some (.int .u32 0) := h4.bz.cell 2
      have z3 : wr.cell? ⟨h + 2, 3, none⟩ = some (.int .u32 0) := h4.bz.cell 3
      have q0 : wr.frozen? ⟨h + 2, 0, none⟩ = false := h4.bz.frozen 0
      have q1 : wr.frozen? ⟨h + 2, 1, none⟩ = false := h4.bz.frozen 1
      have q2 : wr.frozen? ⟨h + 2, 2, none⟩ = false := h4.bz.frozen 2
      have q3 : wr.frozen? ⟨h + 2, 3, none⟩ = false := h4.bz.frozen 3
      unfold dgV at r0 r1 r2 r3
      clear h4
      go_wp2
      obtain ⟨wz, hwz⟩ : ∃ wz, ((((wr.setCell ⟨h + 2, 0, none⟩ (dgV (a * b) 0)).setCell ⟨h + 2, 1, none⟩ (dgV (a * b) 1)).setCell ⟨h + 2, 2, none⟩ (dgV (a * b) 2)).setCell ⟨h + 2, 3, none⟩ (dgV (a * b) 3)) = wz := ⟨_, rfl⟩
      have hbz : Blk wz (h + 2) 85 (magL (a * b)) := by subst hwz; exact (((HF4.out.bz.set 0 _).set 1 _).set 2 _).set 3 _
      have hbl : Below w.heap.size w wz := by
        subst hwz
        exact HF4.out.bel.trans ((((((Upd.refl (h + 2) wr).setCell rfl _).setCell rfl _).setCell rfl _).setCell rfl _).below (by have := HW.out; omega) HF4.out.bel.size)
      have s0 : wz.cell? ⟨h + 1 + 1, 0, none⟩ = some (dgV (a * b) 0) := hbz.cell 0
      have s1 : wz.cell? ⟨h + 1 + 1, 1, none⟩ = some (dgV (a * b) 1) := hbz.cell 1
      have s2 : wz.cell? ⟨h + 1 + 1, 2, none⟩ = some (dgV (a * b) 2) := hbz.cell 2
      have s3 : wz.cell? ⟨h + 1 + 1, 3, none⟩ = some (dgV (a * b) 3) := hbz.cell 3
      rw [← HRr.out]
      have hwz' : ((((wr.setCell ⟨h + 1 + 1, 0, none⟩ (Value.int IntKind.u32 (dg (a * b) 0 : Nat))).setCell ⟨h + 1 + 1, 1, none⟩ (Value.int IntKind.u32 (dg (a * b) 1 : Nat))).setCell ⟨h + 1 + 1, 2, none⟩ (Value.int IntKind.u32 (dg (a * b) 2 : Nat))).setCell ⟨h + 1 + 1, 3, none⟩ (Value.int IntKind.u32 (dg (a * b) 3 : Nat))) = wz := hwz
      rw [hwz']
      exact bodyPost_ret (v := .agg (magL (a * b)).toArray) (by simp [results, Tryd.results92, go_sem, s0, s1, s2, s3, magL]) rfl ⟨rfl, hbl⟩
end Go.Proofs.Qxb6500890aDoor
