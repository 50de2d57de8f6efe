/- The bounded buffer: NewBuffer, At, Truncate, Reset. -/
import Derived.Test.Qxb6500890aDoorTxB1
import Derived.Test.Qxb6500890aDoorTextAgree
namespace Go.Proofs.Qxb6500890aDoor
open Go.RowKit
set_option linter.unusedSimpArgs false
set_option linter.unusedVariables false

section
variable {w w' : World} {ρ ρ' : Rl} {a : Option Addr} {q bB lim : Nat} {bs : List UInt8} {X : Nat → Bool}
set_option maxRecDepth 100000
theorem newBuffer_walk (z : Int) (hz : I64 z) (w : World) : Calls Tryd.prog 15 #[.int .i64 z] w fun e w' => e = .returned (.pointer (some ⟨w.heap.size, 0, none⟩)) ∧ w' = w.alloc (.cells #[.slice none 0 0, .int .i64 (z.toNat : Int)] 93) := by
  obtain ⟨n, hn⟩ : ∃ n, w.heap.size = n := ⟨_, rfl⟩
  rw [hn]
  by_cases h0 : z < 0
  · have d : decide (z < 0) = true := decide_eq_true h0
    rw [Int.toNat_of_nonpos (by omega)]
    go_enter Tryd.func15, Tryd.ntmps15
    go_wp2
    go_ret
    exact ⟨rfl, rfl⟩
  · have d : decide (z < 0) = false := decide_eq_false h0
    rw [Int.toNat_of_nonneg (by omega)]
    go_enter Tryd.func15, Tryd.ntmps15
    go_wp2
    go_ret
    exact ⟨rfl, rfl⟩
theorem at_walk (h : Bu w ρ bB lim bs a q) (z : Int) (hz : I64 z) : Calls Tryd.prog 33 #[.pointer (some ⟨bB, 0, none⟩), .int .i64 z] w fun e w' => e = .returned (if 0 ≤ z ∧ z < (bs.length : Int) then .tuple #[.int .u8 ((bs.getD z.toNat 0).toNat : Int), .bool true] else .tuple #[.int .u8 0, .bool false]) ∧ w' = w := by
  have c1 := h.cells.1
  have hl := h.le
  have Hd := hid h.dt
  obtain ⟨n, hn⟩ : ∃ n, bs.length = n := ⟨_, rfl⟩
  rw [hn] at c1 hl
  rw [hn]
  have Hn := hid hn
  clear hn h
  by_cases h0 : z < 0
  · rw [if_neg (by omega)]
    have d : decide (z < 0) = true := decide_eq_true h0
    go_enter Tryd.func33, Tryd.ntmps33
    go_wp2
    exact bodyPost_ret (v := .tuple #[.int .u8 0, .bool false]) (by simp [results, Tryd.results33, go_sem]) rfl ⟨rfl, rfl⟩
  · have d : decide (z < 0) = false := decide_eq_false h0
    by_cases h1 : z < (n : Int)
    · rw [if_pos (by omega)]
      obtain ⟨i, rfl⟩ : ∃ i : Nat, z = (i : Int) := ⟨z.toNat, by omega⟩
      have d2 : decide ((i : Int) ≥ (n : Int)) = false := decide_eq_false (by omega)
      have d3 : decide ((n : Int) ≤ (i : Int)) = false := decide_eq_false (by omega)
      obtain ⟨b, hb⟩ : ∃ b, bs[i]? = some b := ⟨bs[i]'(by rw [Hn.out]; omega), List.getElem?_eq_getElem _⟩
      rw [Int.toNat_natCast, List.getD_eq_getElem?_getD, hb, Option.getD_some]
      obtain ⟨g, rfl, c2⟩ := Hd.out.at hb
      clear hb
      go_enter Tryd.func33, Tryd.ntmps33
      go_wp2
      exact bodyPost_ret (v := .tuple #[.int .u8 (b.toNat : Int), .bool true]) (by simp [results, Tryd.results33, go_sem]) rfl ⟨rfl, rfl⟩
    · rw [if_neg (by omega)]
      have d2 : decide (z ≥ (n : Int)) = true := decide_eq_true (by omega)
      have d3 : decide ((n : Int) ≤ z) = true := decide_eq_true (by omega)
      go_enter Tryd.func33, Tryd.ntmps33
      go_wp2
      exact bodyPost_ret (v := .tuple #[.int .u8 0, .bool false]) (by simp [results, Tryd.results33, go_sem]) rfl ⟨rfl, rfl⟩
/-- data[:n]. -/
theorem Dt.cut (h : Dt w ρ a q bs) (n : Nat) (hn : n ≤ q) : ∀ wx : World, (Instr.slice 82 (.slice a bs.length q) none (some (.int .i64 (n : Int))) none).run Tryd.prog wx = .ok (.slice a n q) wx := fun wx => by
  have ht : Tryd.prog.underlying 82 = some (.slice (Tryd.prog.elem 82)) := by kernel_rfl
  have e2 : Tryd.prog.elem 82 = 5 := by kernel_rfl
  have e3 : (sizeOf 5).run Tryd.prog wx = .ok 1 wx := by
    obtain ⟨i0, hi0, _, hz1, _⟩ := info_parts info_u8
    simp [sizeOf, typeInfo, hi0, hz1]
  rw [run_slice_h wx 82 a bs.length q ht .i64 (n : Int) (by omega) (by omega), e2, e3]
  simp only [Result.andThen_ok, sliced, Int.toNat_natCast, Nat.sub_zero, Nat.zero_mul]
  rcases h with ⟨rfl, rfl, rfl⟩ | ⟨g, rest, rfl, _⟩
  · simp
  · have ea : (⟨g, 0, none⟩ : Addr).add 0 = ⟨g, 0, none⟩ := rfl
    simp [ea]
def TrP (w : World) (ρ : Rl) (bB lim : Nat) (bs : List UInt8) (a : Option Addr) (q : Nat) (w' : World) : Prop := Bu w' ρ bB lim bs a q ∧ Fr buX ρ w ρ w'
theorem truncate_walk (h : Bu w ρ bB lim bs a q) (z : Int) (hz : I64 z) : Calls Tryd.prog 31 #[.pointer (some ⟨bB, 0, none⟩), .int .i64 z] w fun e w' => (e = .returned (.bool (decide (0 ≤ z ∧ z ≤ (bs.length : Int))))) ∧ TrP w ρ bB lim (if 0 ≤ z ∧ z ≤ (bs.length : Int) then bs.take z.toNat else bs) a q w' := by
  have c1 := h.cells.1
  have hl := h.le
  have HH := hid h
  have hz1 := hz.1
  have hz2 := hz.2
  clear hz
  obtain ⟨n, hn⟩ : ∃ n, bs.length = n := ⟨_, rfl⟩
  rw [hn] at c1 hl
  rw [hn]
  have Hn := hid hn
  clear hn h
  by_cases h0 : z < 0
  · rw [if_neg (by omega), decide_eq_false (by omega)]
    have d : decide (z < 0) = true := decide_eq_true h0
    go_enter Tryd.func31, Tryd.ntmps31
    go_wp2
    go_ret
    exact ⟨rfl, HH.out, Fr.refl _ _ _⟩
  · have d : decide (z < 0) = false := decide_eq_false h0
    by_cases h1 : z ≤ (n : Int)
    · rw [if_pos (by omega), decide_eq_true (by omega)]
      obtain ⟨i, rfl⟩ : ∃ i : Nat, z = (i : Int) := ⟨z.toNat, by omega⟩
      rw [Int.toNat_natCast]
      have d2 : decide ((i : Int) > (n : Int)) = false := decide_eq_false (by omega)
      have d3 : decide ((n : Int) < (i : Int)) = false := decide_eq_false (by omega)
      have hq : n ≤ q := by have := HH.out.dt.le; rw [Hn.out] at this; exact this
      have hsl := HH.out.dt.cut i (by omega)
      rw [Hn.out] at hsl
      have HR := hid (HH.out.set (HH.out.dt.take i) HH.out.lq)
      have e1 : (bs.take i).length = i := by rw [List.length_take, Hn.out]; omega
      rw [e1] at HR
      have hfz : w.frozen? ⟨bB, 0, none⟩ = false := HH.out.bb.frozen _
      clear e1 hq
      go_enter Tryd.func31, Tryd.ntmps31
      go_wp2
      go_ret
      exact ⟨rfl, HR.out⟩
    · rw [if_neg (by omega), decide_eq_false (by omega)]
      have d2 : decide (z > (n : Int)) = true := decide_eq_true (by omega)
      have d3 : decide ((n : Int) < z) = true := decide_eq_true (by omega)
      go_enter Tryd.func31, Tryd.ntmps31
      go_wp2
      go_ret
      exact ⟨rfl, HH.out, Fr.refl _ _ _⟩
theorem reset_walk (h : Bu w ρ bB lim bs a q) : Calls Tryd.prog 32 #[.pointer (some ⟨bB, 0, none⟩)] w fun e w' => e = .returned (.tuple #[]) ∧ TrP w ρ bB lim [] a q w' := by
  have c1 := h.cells.1
  have hl := h.le
  have HH := hid h
  obtain ⟨n, hn⟩ : ∃ n, bs.length = n := ⟨_, rfl⟩
  rw [hn] at c1 hl
  have Hn := hid hn
  clear hn h
  have hsl := HH.out.dt.cut 0 (by omega)
  rw [Hn.out] at hsl
  have HR := hid (HH.out.set (HH.out.dt.take 0) HH.out.lq)
  rw [show bs.take 0 = [] from rfl] at HR
  have hfz : w.frozen? ⟨bB, 0, none⟩ = false := HH.out.bb.frozen _
  go_enter Tryd.func32, Tryd.ntmps32
  go_wp2
  exact bodyPost_end (v := .tuple #[]) (by simp [results, Tryd.results32, go_sem]) rfl ⟨rfl, HR.out⟩
end
end Go.Proofs.Qxb6500890aDoor
