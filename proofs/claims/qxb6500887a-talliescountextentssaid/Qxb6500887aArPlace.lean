/- placedRightly. -/
import Derived.Test.Qxb6500887aArAddr2
import Derived.Test.Qxb6500887aBlk
import Derived.Deep.DeepCutAuto
namespace Go.Proofs.Qxb6500887a
open Go.RowKit
set_option linter.unusedSimpArgs false
set_option linter.unusedVariables false

/-- The parts of a word's index. -/
structure Parts (k b l r s : Int) : Prop where
  k0 : 0 ≤ k
  k1 : k < 32768
  b0 : 0 ≤ b
  b1 : b < 64
  r0 : 0 ≤ r
  r1 : r < 32
  s0 : 0 ≤ s
  s1 : s < 16
  ek : b * 512 + r * 16 + s = k
  el : l = b * 32 + r
theorem parts_of (k : Int) (h0 : 0 ≤ k) (h1 : k < 32768) : Parts k (k / 512) (k / 16) (k / 16 % 32) (k % 16) := by
  constructor <;> omega

set_option maxRecDepth 100000 in
set_option maxHeartbeats 1000000 in
theorem placed_walk (x : Int) (h : InH x) (w : World) :
    Calls Try.prog 26 #[.int .u64 x] w fun e w' => e = .returned (.bool true) ∧ Below w.heap.size w w' := by
  have HD := hid (fun w => decode_ok x h w)
  have HLi := hid (fun w => lineOf_in x h w)
  have HBl := hid (fun w => blockOf_in x h w)
  obtain ⟨h0, h1⟩ := h
  have hp := parts_of (x - 65536) (by omega) (by omega)
  have hk : x - 65536 = x - 65536 := rfl
  generalize hke : x - 65536 = k at *
  clear hk
  generalize k / 512 = b at *
  generalize k / 16 % 32 = r at *
  generalize k / 16 = l at *
  generalize k % 16 = s at *
  obtain ⟨k0, k1, b0, b1, r0, r1, s0, s1, ek, el⟩ := hp
  have HPa := hid (fun w => placeAddr_in k b l r s k0 k1 w)
  have HWo := hid (fun w => addrOfWord_in k k0 k1 w)
  have l0 : 0 ≤ l := by omega
  have l1 : l < 2048 := by omega
  have HAl := hid (fun w => addrOfLine_in l l0 l1 w)
  have HAb := hid (fun w => addrOfBlock_in b b0 b1 w)
  have HBo := hid (fun w => blockOfLine_in l l0 l1 w)
  have HFl := hid (fun w => firstLine_in b b0 b1 w)
  have HR := hid (fun w => within_walk r 32 w)
  rw [decide_eq_true (And.intro r0 r1)] at HR
  have HSl := hid (fun w => within_walk s 16 w)
  rw [decide_eq_true (And.intro s0 s1)] at HSl
  have hl32 : l / 32 = b := by omega
  rw [hl32] at HBo
  have t1 : (b * 512 + r * 16 + s != k) = false := by simp [ek]
  have t2 : (l != b * 32 + r) = false := by simp [el]
  have t3 : (65536 + k == x) = true := by simp; omega
  have t4 : (65536 + l * 16 == x - s) = true := by simp; omega
  have t5 : (65536 + b * 512 == 65536 + l * 16 - r * 16) = true := by simp; omega
  have t6 : (b * 32 == l - r) = true := by simp; omega
  clear ek el hl32
  go_enter Try.func26, Try.ntmps26
  go_wp2_with fail
  refine (HD.out _).mono ?_
  rintro e w1 ⟨rfl, hb1⟩
  have HB1 := hid hb1
  obtain ⟨p, hp⟩ : ∃ p, w1.heap.size = p := ⟨_, rfl⟩
  obtain ⟨w2, hw2⟩ : ∃ w2, w1.alloc (.cells #[.int .i64 k, .int .i64 b, .int .i64 l, .int .i64 r, .int .i64 s] 55) = w2 := ⟨_, rfl⟩
  have hbk : Blk w2 p 55 [.int .i64 k, .int .i64 b, .int .i64 l, .int .i64 r, .int .i64 s] := by subst hw2 hp; exact Blk.new _ _ _
  have HB2 : Hid (Below w.heap.size w w2) := by subst hw2; exact hid (hb1.alloc hb1.size _)
  have c0 : w2.cell? ⟨p, 0, none⟩ = some (.int .i64 k) := hbk.cell 0
  have c1 : w2.cell? ⟨p, 1, none⟩ = some (.int .i64 b) := hbk.cell 1
  have c2 : w2.cell? ⟨p, 2, none⟩ = some (.int .i64 l) := hbk.cell 2
  have c3 : w2.cell? ⟨p, 3, none⟩ = some (.int .i64 r) := hbk.cell 3
  have c4 : w2.cell? ⟨p, 4, none⟩ = some (.int .i64 s) := hbk.cell 4
  have HBk := hid hbk
  clear hb1 hbk
  go_upto_region 4 with fail
  clear hw2 hp
  go_wp2_with (first
    | (go_at_call 37; first | (with_reducible refine (HR.out _).mono ?_; rintro e w3 ⟨rfl, rfl⟩) | (with_reducible refine (HSl.out _).mono ?_; rintro e w3 ⟨rfl, rfl⟩)))
  refine (HPa.out _).mono ?_
  rintro e w4 ⟨rfl, hb4⟩
  have hbk4 := HBk.out.below hb4
  have HB4 : Hid (Below w.heap.size w w4) := hid (HB2.out.trans (hb4.mono HB2.out.size))
  have q0 : w4.cell? ⟨p, 0, none⟩ = some (.int .i64 k) := hbk4.cell 0
  have q1 : w4.cell? ⟨p, 1, none⟩ = some (.int .i64 b) := hbk4.cell 1
  have q2 : w4.cell? ⟨p, 2, none⟩ = some (.int .i64 l) := hbk4.cell 2
  have q3 : w4.cell? ⟨p, 3, none⟩ = some (.int .i64 r) := hbk4.cell 3
  have q4 : w4.cell? ⟨p, 4, none⟩ = some (.int .i64 s) := hbk4.cell 4
  have HBk4 := hid hbk4
  clear hbk4 hb4 c0 c1 c2 c3 c4
  go_wp2_with (first
    | (go_at_call 32; refine (HWo.out _).mono ?_; rintro e w5 ⟨rfl, rfl⟩)
    | (go_at_call 63; refine (HLi.out _).mono ?_; rintro e w5 ⟨rfl, rfl⟩)
    | (go_at_call 64; refine (HBl.out _).mono ?_; rintro e w5 ⟨rfl, rfl⟩)
    | (go_at_call 33; refine (HAl.out _).mono ?_; rintro e w5 ⟨rfl, rfl⟩)
    | (go_at_call 34; refine (HAb.out _).mono ?_; rintro e w5 ⟨rfl, rfl⟩)
    | (go_at_call 35; refine (HBo.out _).mono ?_; rintro e w5 ⟨rfl, rfl⟩)
    | (go_at_call 36; refine (HFl.out _).mono ?_; rintro e w5 ⟨rfl, rfl⟩))
  obtain ⟨g, hg⟩ : ∃ g, w5.heap.size = g := ⟨_, rfl⟩
  obtain ⟨wl, hwl⟩ : ∃ wl, w5.alloc (.cells #[.int .u8 0, .int .u8 0, .int .u8 0, .int .u8 0, .int .u8 0, .int .u8 0, .int .u8 0, .int .u8 0] 36) = wl := ⟨_, rfl⟩
  have hbl : Blk wl g 36 [.int .u8 0, .int .u8 0, .int .u8 0, .int .u8 0, .int .u8 0, .int .u8 0, .int .u8 0, .int .u8 0] := by subst hwl hg; exact Blk.new _ _ _
  have HBw : Hid (Below w.heap.size w wl) := by subst hwl; exact hid (HB4.out.alloc HB4.out.size _)
  have hbk5 : Blk wl p 55 [.int .i64 k, .int .i64 b, .int .i64 l, .int .i64 r, .int .i64 s] := by subst hwl; exact HBk4.out.alloc _
  have HCz : Hid (∀ j : Nat, j < 8 → wl.cell? ⟨g, j, none⟩ = some (.int .u8 0)) := hid (fun j hj => by
    rw [hbl.cell]
    rcases (by omega : j = 0 ∨ j = 1 ∨ j = 2 ∨ j = 3 ∨ j = 4 ∨ j = 5 ∨ j = 6 ∨ j = 7) with rfl | rfl | rfl | rfl | rfl | rfl | rfl | rfl <;> rfl)
  have u1 : wl.cell? ⟨p, 1, none⟩ = some (.int .i64 b) := hbk5.cell 1
  have u2 : wl.cell? ⟨p, 2, none⟩ = some (.int .i64 l) := hbk5.cell 2
  have u3 : wl.cell? ⟨p, 3, none⟩ = some (.int .i64 r) := hbk5.cell 3
  have u4 : wl.cell? ⟨p, 4, none⟩ = some (.int .i64 s) := hbk5.cell 4
  rw [hg, hwl]
  clear hwl hg q0 q1 q2 q3 q4 hbl hbk5 HBk4
  go_loopw [131] (fun i wq => ∃ j : Nat, j ≤ 8 ∧ i = .int .i64 j ∧ wq = wl) (fun i _ => 8 - (intOf i).toNat)
  case atStart => exact ⟨0, by omega, rfl, rfl⟩
  case round =>
    obtain ⟨j, hj, rfl, rfl⟩ := hrel
    by_cases hlt : j < 8
    · have cz := HCz.out j hlt
      have i1 : (j : Int) < 8 := by omega
      go_wp2
      exact ⟨⟨j + 1, by omega, by go_num, by first | rfl | trivial⟩, by simp [intOf]; omega⟩
    · have hj8 : j = 8 := by omega
      subst hj8
      go_wp2
      go_ret
      exact ⟨rfl, HBw.out⟩
end Go.Proofs.Qxb6500887a
