/- HashIn, Bucket, classOf, CompareBytes. -/
import Derived.Test.Qxb6500891aPtOps
import Derived.Deep.QuietTactic
import Derived.BigQuiet
import Derived.Deep.DeepCutAuto
namespace Go.Proofs.Qxb6500891a
open Go.RowKit
set_option linter.unusedSimpArgs false
set_option linter.unusedVariables false

def hinC (p : Int) : Nat → Int
  | 0 => p % 256
  | 1 => p / 256 % 256
  | 2 => p / 65536 % 256
  | _ => p / 16777216
def hinJ (p h : Int) : Nat → Int
  | 0 => h
  | j + 1 => hB (hinJ p h j) (hinC p j)
theorem hinJ1 (p h : Int) : hinJ p h 1 = hB (hinJ p h 0) (p % 256) := by simp only [hinJ, hinC]
theorem hinJ2 (p h : Int) : hinJ p h 2 = hB (hinJ p h 1) (p / 256 % 256) := by simp only [hinJ, hinC]
theorem hinJ3 (p h : Int) : hinJ p h 3 = hB (hinJ p h 2) (p / 65536 % 256) := by simp only [hinJ, hinC]
theorem hinJ4 (p h : Int) : hinJ p h 4 = hB (hinJ p h 3) (p / 16777216) := by simp only [hinJ, hinC]
theorem hinJ0 (p h : Int) : hinJ p h 0 = h := by simp only [hinJ]
def hashIn (p h : Int) : Int := hinJ p h 4
theorem hashIn_rng' (p h : Int) : 0 ≤ hashIn p h ∧ hashIn p h < 4294967296 := by
  unfold hashIn
  rw [hinJ4]
  exact hB_rng _ _
attribute [local irreducible] hinJ hB
def U32 (a : Int) : Prop := 0 ≤ a ∧ a < 4294967296
set_option maxRecDepth 100000 in
set_option maxHeartbeats 2000000 in
theorem hashIn_walk (p h : Int) (hp : U32 p) (w : World) :
    Calls Try.prog 29 #[.int .u32 p, .int .u32 h] w fun e w' => e = .returned (.int .u32 (hashIn p h)) ∧ w' = w := by
  obtain ⟨p0, p1⟩ := hp
  go_enter Try.func29, Try.ntmps29
  go_wp2_with fail
  go_loopw [5, 6] (fun v u wr => wr = w ∧ ∃ j : Nat, j ≤ 4 ∧ v = .int .u32 (hinJ p h j) ∧ u = .int .i64 ((8 * j : Nat) : Int)) (fun _ u _ => 32 - (intOf u).toNat)
  case atStart => exact ⟨rfl, 0, by omega, by rw [hinJ0], rfl⟩
  case round =>
    obtain ⟨rfl, j, hj, rfl, rfl⟩ := hrel
    rcases (by omega : j = 0 ∨ j = 1 ∨ j = 2 ∨ j = 3 ∨ j = 4) with rfl | rfl | rfl | rfl | rfl
    · have Hn : Hid (hinJ p h 1 = hB (hinJ p h 0) (p % 256)) := hid (hinJ1 p h)
      generalize hinJ p h 0 = hh at *
      go_wp2_with (go_at_call 46; refine (hashByte_int hh (p % 256) (by omega) (by omega) _).mono ?_; rintro e w1 ⟨rfl, rfl⟩)
      exact ⟨⟨by first | rfl | trivial, 1, by omega, by rw [Hn.out], by first | rfl | go_num⟩, by simp [intOf]⟩
    · have Hn : Hid (hinJ p h 2 = hB (hinJ p h 1) (p / 256 % 256)) := hid (hinJ2 p h)
      generalize hinJ p h 1 = hh at *
      go_wp2_with (go_at_call 46; refine (hashByte_int hh (p / 256 % 256) (by omega) (by omega) _).mono ?_; rintro e w1 ⟨rfl, rfl⟩)
      exact ⟨⟨by first | rfl | trivial, 2, by omega, by rw [Hn.out], by first | rfl | go_num⟩, by simp [intOf]⟩
    · have Hn : Hid (hinJ p h 3 = hB (hinJ p h 2) (p / 65536 % 256)) := hid (hinJ3 p h)
      generalize hinJ p h 2 = hh at *
      go_wp2_with (go_at_call 46; refine (hashByte_int hh (p / 65536 % 256) (by omega) (by omega) _).mono ?_; rintro e w1 ⟨rfl, rfl⟩)
      exact ⟨⟨by first | rfl | trivial, 3, by omega, by rw [Hn.out], by first | rfl | go_num⟩, by simp [intOf]⟩
    · have Hn : Hid (hinJ p h 4 = hB (hinJ p h 3) (p / 16777216)) := hid (hinJ4 p h)
      generalize hinJ p h 3 = hh at *
      go_wp2_with (go_at_call 46; refine (hashByte_int hh (p / 16777216) (by omega) (by omega) _).mono ?_; rintro e w1 ⟨rfl, rfl⟩)
      exact ⟨⟨by first | rfl | trivial, 4, by omega, by rw [Hn.out], by first | rfl | go_num⟩, by simp [intOf]⟩
    · go_wp2
      go_ret
      exact ⟨rfl, rfl⟩
theorem hashIn_rng (p h : Int) : U32 (hashIn p h) := hashIn_rng' p h
theorem xor32_rng (a b : Int) : 0 ≤ bits .xor .u32 a b ∧ bits .xor .u32 a b < 4294967296 := by
  show 0 ≤ IntKind.u32.wrap _ ∧ IntKind.u32.wrap _ < 4294967296
  rw [IntKind.wrap_u32]
  omega
set_option maxRecDepth 100000 in
theorem bucket_walk (h : Int) (n : Nat) (hh : U32 h) (n1 : 1 ≤ n) (n2 : n ≤ 64) (w : World) :
    Calls Try.prog 30 #[.int .u32 h, .int .i64 n] w fun e w' => (∃ k : Nat, k < n ∧ e = .returned (.int .i64 (k : Int))) ∧ w' = w := by
  obtain ⟨h0, h1⟩ := hh
  have dz : ((n : Int) == 0) = false := by simp; omega
  have dz' : (n == 0) = false := by simp; omega
  go_enter Try.func30, Try.ntmps30
  go_wp2
  obtain ⟨x0, x1⟩ := xor32_rng h (h / 65536)
  generalize bits .xor .u32 h (h / 65536) = x at *
  have e1 : x.tmod (n : Int) = x % (n : Int) := Int.tmod_eq_emod_of_nonneg x0
  have e2 : 0 ≤ x % (n : Int) := Int.emod_nonneg _ (by omega)
  have e3 : x % (n : Int) < (n : Int) := Int.emod_lt_of_pos _ (by omega)
  have e4 : wrap64 (x.tmod (n : Int)) = ((x % (n : Int)).toNat : Int) := by
    rw [e1, Int.toNat_of_nonneg e2]
    generalize x % (n : Int) = y at *
    unfold wrap64
    omega
  rw [e4]
  go_ret
  exact ⟨⟨_, by omega, rfl⟩, rfl⟩

def clsL : List Nat → Int
  | [x] => if x = 46 then 1 else 0
  | [x, y] => if x = 46 ∧ y = 46 then 2 else 0
  | _ => 0
set_option maxRecDepth 100000 in
theorem classOf_walk (a : Option Addr) (n c : Nat) (l : List Nat) (w : World) (hr : ByteRow w a n c l) :
    Calls Try.prog 49 #[.slice a n c] w fun e w' => e = .returned (.int .u8 (clsL l)) ∧ w' = w := by
  have hn := hr.1.2.2.1.1
  have hl := hr.len
  by_cases h1 : n = 1
  · subst h1
    obtain ⟨x, hx, hx256, b, off, rfl, hb, cx⟩ := hr.get (show 0 < 1 by omega)
    have he : l = [x] := by match l, hl, hx with | [y], _, h => simpa using h
    subst he
    have i1 : (0 : Int) < ((1 : Nat) : Int) := by omega
    have cx' : w.cell? ⟨b, off, none⟩ = some (.int .u8 (x : Int)) := by simpa using cx
    clear hr hx hl cx
    by_cases d : x = 46
    · subst d
      go_enter Try.func49, Try.ntmps49
      go_wp2
      go_ret
      exact ⟨rfl, rfl⟩
    · have dd : ((x : Int) == 46) = false := by simp; omega
      rw [show clsL [x] = 0 by simp [clsL, d]]
      go_enter Try.func49, Try.ntmps49
      go_wp2
      go_ret
      exact ⟨rfl, rfl⟩
  by_cases h2 : n = 2
  · subst h2
    obtain ⟨x, hx, hx256, b, off, rfl, hb, cx⟩ := hr.get (show 0 < 2 by omega)
    obtain ⟨y, hy, hy256, b', off', e, hb', cy⟩ := hr.get (show 1 < 2 by omega)
    cases e
    have he : l = [x, y] := by
      match l, hl, hx, hy with
      | [p, q], _, h, h' => simp at h h'; rw [h, h']
    subst he
    have cx' : w.cell? ⟨b, off, none⟩ = some (.int .u8 (x : Int)) := by simpa using cx
    clear hr hx hl hy cx
    by_cases d : x = 46
    · subst d
      by_cases d2 : y = 46
      · subst d2
        go_enter Try.func49, Try.ntmps49
        go_wp2
        go_ret
        exact ⟨rfl, rfl⟩
      · have dd : ((y : Int) == 46) = false := by simp; omega
        rw [show clsL [46, y] = 0 by simp [clsL, d2]]
        go_enter Try.func49, Try.ntmps49
        go_wp2
        go_ret
        exact ⟨rfl, rfl⟩
    · have dd : ((x : Int) == 46) = false := by simp; omega
      rw [show clsL [x, y] = 0 by simp [clsL, d]]
      go_enter Try.func49, Try.ntmps49
      go_wp2
      go_ret
      exact ⟨rfl, rfl⟩
  have hc : clsL l = 0 := by
    match l, hl with
    | [], _ => rfl
    | [x], h => exact absurd h.symm h1
    | [x, y], h => exact absurd h.symm h2
    | x :: y :: z :: t, _ => rfl
  rw [hc]
  have d1 : ((n : Int) == 1) = false := by simp; omega
  have d2 : ((n : Int) == 2) = false := by simp; omega
  clear hr
  go_enter Try.func49, Try.ntmps49
  go_wp2
  go_ret
  exact ⟨rfl, rfl⟩
end Go.Proofs.Qxb6500891a
