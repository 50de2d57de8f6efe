/- Overlaps, checkLength, ExtentOf. -/
import Derived.Test.Qxb6500887aGreatArExt2
namespace Go.Proofs.Qxb6500887aGreat
open Go.RowKit
set_option linter.unusedSimpArgs false
set_option linter.unusedVariables false

structure Bx2 (w : World) (h : Nat) (k n k2 n2 : Int) (wr : World) : Prop where
  bel : Below w.heap.size w wr
  ba : Blk wr h 84 [.int .i64 k, .int .i64 n]
  bb : Blk wr (h + 1) 84 [.int .i64 k2, .int .i64 n2]
theorem Bx2.below {w wr w' : World} {h : Nat} {k n k2 n2 : Int} (f : Bx2 w h k n k2 n2 wr) (hb : Below wr.heap.size wr w') : Bx2 w h k n k2 n2 w' :=
  ⟨f.bel.trans (hb.mono f.bel.size), f.ba.below hb, f.bb.below hb⟩
theorem Bx2.start (w : World) (k n k2 n2 : Int) : Bx2 w w.heap.size k n k2 n2 ((w.alloc (.cells #[.int .i64 k, .int .i64 n] 84)).alloc (.cells #[.int .i64 k2, .int .i64 n2] 84)) := by
  have s1 : ∀ (x : World) (o : Obj), (x.alloc o).heap.size = x.heap.size + 1 := fun x o => by simp
  refine ⟨Below.alloc (Below.alloc (Below.refl _ _) (Nat.le_refl _) _) (by rw [s1]; omega) _, (Blk.new w [.int .i64 k, .int .i64 n] _).alloc _, ?_⟩
  have := Blk.new (w.alloc (.cells #[.int .i64 k, .int .i64 n] 84)) [.int .i64 k2, .int .i64 n2] 84
  rw [s1] at this
  exact this

def lenOut (k m : Int) : Int := if m < 1 then 4 else if 32768 - k < m then 7 else 0
theorem checkLength_walk (k m : Int) (k0 : 0 ≤ k) (k1 : k < 32768) (w : World) :
    Calls Tryz.prog 170 #[.int .i64 k, .int .i64 m, .int .i64 32768] w fun e w' => e = .returned (.int .u8 (lenOut k m)) ∧ w' = w := by
  unfold lenOut
  by_cases h1 : m < 1
  · rw [if_pos h1]
    have d1 : decide (m < 1) = true := decide_eq_true h1
    go_enter Tryz.func170, Tryz.ntmps170
    go_wp2
    go_ret
    exact ⟨rfl, rfl⟩
  · rw [if_neg h1]
    have d1 : decide (m < 1) = false := decide_eq_false h1
    by_cases h2 : 32768 - k < m
    · rw [if_pos h2]
      have d2 : decide (32768 - k < m) = true := decide_eq_true h2
      go_enter Tryz.func170, Tryz.ntmps170
      go_wp2
      go_ret
      exact ⟨rfl, rfl⟩
    · rw [if_neg h2]
      have d2 : decide (32768 - k < m) = false := decide_eq_false h2
      go_enter Tryz.func170, Tryz.ntmps170
      go_wp2
      go_ret
      exact ⟨rfl, rfl⟩

set_option maxRecDepth 100000 in
theorem extentOf_ok (x m : Int) (hi : InH x) (he : x % 2 = 0) (h1 : 1 ≤ m) (h2 : m ≤ 98304 - x) (w : World) :
    Calls Tryz.prog 257 #[.int .u64 x, .int .i64 m] w fun e w' => e = .returned (.tuple #[extV (x - 65536) m, .int .u8 0]) ∧ Below w.heap.size w w' := by
  have HG := hid (fun w => granule_ok x hi he w)
  obtain ⟨i0, i1⟩ := hi
  have HL := hid (fun w => checkLength_walk (x - 65536) m (by omega) (by omega) w)
  rw [show lenOut (x - 65536) m = 0 by unfold lenOut; rw [if_neg (by omega), if_neg (by omega)]] at HL
  have hx : (x - 65536) / 2 * 2 = x - 65536 := by omega
  go_enter Tryz.func257, Tryz.ntmps257
  go_wp2_with (first
    | (go_at_call 139; refine (HG.out _).mono ?_; rintro e w1 ⟨rfl, hw1⟩; subst hw1)
    | (go_at_call 170; refine (HL.out _).mono ?_; rintro e w1 ⟨rfl, hw1⟩; subst hw1))
  exact bodyPost_ret (v := .tuple #[.agg #[.int .i64 (x - 65536), .int .i64 m], .int .u8 0]) (by simp [results, Tryz.results257, go_sem]) rfl ⟨rfl, Below.alloc (Below.refl _ _) (Nat.le_refl _) _⟩
set_option maxRecDepth 100000 in
theorem extentOf_no (x m : Int) (hU : U64 x) (hno : ¬ (InH x ∧ x % 2 = 0 ∧ 1 ≤ m ∧ m ≤ 98304 - x)) (w : World) :
    Calls Tryz.prog 257 #[.int .u64 x, .int .i64 m] w fun e w' => ∃ c : Int, e = .returned (.tuple #[extV 0 0, .int .u8 c]) ∧ (c == 0) = false ∧ Below w.heap.size w w' := by
  by_cases hi : InH x
  · by_cases he : x % 2 = 0
    · have HG := hid (fun w => granule_ok x hi he w)
      obtain ⟨i0, i1⟩ := hi
      have HL := hid (fun w => checkLength_walk (x - 65536) m (by omega) (by omega) w)
      have hx : (x - 65536) / 2 * 2 = x - 65536 := by omega
      have hc : (lenOut (x - 65536) m == 0) = false := by
        unfold lenOut
        by_cases a : m < 1
        · rw [if_pos a]; rfl
        · rw [if_neg a, if_pos (by unfold InH at hno; omega)]; rfl
      have hc' : (lenOut (x - 65536) m != 0) = true := by simpa using hc
      generalize lenOut (x - 65536) m = c at *
      clear hno
      go_enter Tryz.func257, Tryz.ntmps257
      go_wp2_with (first
        | (go_at_call 139; refine (HG.out _).mono ?_; rintro e w1 ⟨rfl, hw1⟩; subst hw1)
        | (go_at_call 170; refine (HL.out _).mono ?_; rintro e w1 ⟨rfl, hw1⟩; subst hw1))
      exact bodyPost_ret (v := .tuple #[.agg #[.int .i64 0, .int .i64 0], .int .u8 c]) (by simp [results, Tryz.results257, go_sem]) rfl ⟨c, rfl, hc, Below.alloc (Below.refl _ _) (Nat.le_refl _) _⟩
    · have HG := hid (fun w => granule_odd x hi he w)
      clear hi he hno
      go_enter Tryz.func257, Tryz.ntmps257
      go_wp2_with (go_at_call 139; refine (HG.out _).mono ?_; rintro e w1 ⟨rfl, hw1⟩; subst hw1)
      exact bodyPost_ret (v := .tuple #[.agg #[.int .i64 0, .int .i64 0], .int .u8 2]) (by simp [results, Tryz.results257, go_sem]) rfl ⟨2, rfl, rfl, Below.alloc (Below.refl _ _) (Nat.le_refl _) _⟩
  · have HG := hid (fun w => granule_out x hi w)
    clear hi hno
    go_enter Tryz.func257, Tryz.ntmps257
    go_wp2_with (go_at_call 139; refine (HG.out _).mono ?_; rintro e w1 ⟨rfl, hw1⟩; subst hw1)
    exact bodyPost_ret (v := .tuple #[.agg #[.int .i64 0, .int .i64 0], .int .u8 1]) (by simp [results, Tryz.results257, go_sem]) rfl ⟨1, rfl, rfl, Below.alloc (Below.refl _ _) (Nat.le_refl _) _⟩
end Go.Proofs.Qxb6500887aGreat
