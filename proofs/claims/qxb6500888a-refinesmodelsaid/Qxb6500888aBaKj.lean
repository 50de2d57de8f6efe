/- sameHarvest, sameResult (written by tools/mk_kj.py). -/
import Derived.Test.Qxb6500888aBaSb
import Derived.Test.Qxb6500888aBaW3
namespace Go.Proofs.Qxb6500888a
open Go.RowKit
set_option linter.unusedSimpArgs false
set_option linter.unusedVariables false

set_option maxRecDepth 1000000 in
set_option maxHeartbeats 8000000 in
theorem sameHarvest_walk (w : World) (av bv : Nat → Option Addr) (n pv qv : Nat → Nat) (xs ys : Nat → List Nat) (hx : ∀ i, i < 8 → RdA w (av i) (n i) (xs i)) (hy : ∀ i, i < 8 → RdA w (bv i) (n i) (ys i)) (hp : ∀ i, i < 8 → (xs i).Perm (ys i)) (hn : ∀ i, i < 8 → n i ≤ 1000000000000000) :
    Calls Try.prog 43 #[.agg #[.slice (av 0) (n 0) (pv 0), .slice (av 1) (n 1) (pv 1), .slice (av 2) (n 2) (pv 2), .slice (av 3) (n 3) (pv 3), .slice (av 4) (n 4) (pv 4), .slice (av 5) (n 5) (pv 5), .slice (av 6) (n 6) (pv 6), .slice (av 7) (n 7) (pv 7)], .agg #[.slice (bv 0) (n 0) (qv 0), .slice (bv 1) (n 1) (qv 1), .slice (bv 2) (n 2) (qv 2), .slice (bv 3) (n 3) (qv 3), .slice (bv 4) (n 4) (qv 4), .slice (bv 5) (n 5) (qv 5), .slice (bv 6) (n 6) (qv 6), .slice (bv 7) (n 7) (qv 7)]] w fun e w' => e = .returned (.bool true) ∧ Below w.heap.size w w' := by
  have HX := hid (And.intro hx (And.intro hy (And.intro hp hn)))
  clear hx hy hp hn
  have HSB : Hid (∀ wx, Below w.heap.size w wx → ∀ i, i < 8 → Calls Try.prog 27 #[.slice (av i) (n i) (pv i), .slice (bv i) (n i) (qv i)] wx fun e w' => e = .returned (.bool true) ∧ Below wx.heap.size wx w') := hid (fun wx hb i hi => sameBag_walk wx (av i) (bv i) (n i) (pv i) (qv i) (xs i) (ys i) ((HX.out.1 i hi).below hb) ((HX.out.2.1 i hi).below hb) (HX.out.2.2.1 i hi) (by have := HX.out.2.2.2 i hi; omega))
  obtain ⟨b1, hb1⟩ : ∃ b, w.heap.size = b := ⟨_, rfl⟩
  obtain ⟨wb, hwb⟩ : ∃ x, (w.alloc (.cells #[.slice (av 0) (n 0) (pv 0), .slice (av 1) (n 1) (pv 1), .slice (av 2) (n 2) (pv 2), .slice (av 3) (n 3) (pv 3), .slice (av 4) (n 4) (pv 4), .slice (av 5) (n 5) (pv 5), .slice (av 6) (n 6) (pv 6), .slice (av 7) (n 7) (pv 7)] 36)).alloc (.cells #[.slice (bv 0) (n 0) (qv 0), .slice (bv 1) (n 1) (qv 1), .slice (bv 2) (n 2) (qv 2), .slice (bv 3) (n 3) (qv 3), .slice (bv 4) (n 4) (qv 4), .slice (bv 5) (n 5) (qv 5), .slice (bv 6) (n 6) (qv 6), .slice (bv 7) (n 7) (qv 7)] 36) = x := ⟨_, rfl⟩
  have hsz : (w.alloc (.cells #[.slice (av 0) (n 0) (pv 0), .slice (av 1) (n 1) (pv 1), .slice (av 2) (n 2) (pv 2), .slice (av 3) (n 3) (pv 3), .slice (av 4) (n 4) (pv 4), .slice (av 5) (n 5) (pv 5), .slice (av 6) (n 6) (pv 6), .slice (av 7) (n 7) (pv 7)] 36)).heap.size = b1 + 1 := by simp [hb1]
  have HB0 : Hid (Below w.heap.size w wb ∧ Blk wb b1 36 [.slice (av 0) (n 0) (pv 0), .slice (av 1) (n 1) (pv 1), .slice (av 2) (n 2) (pv 2), .slice (av 3) (n 3) (pv 3), .slice (av 4) (n 4) (pv 4), .slice (av 5) (n 5) (pv 5), .slice (av 6) (n 6) (pv 6), .slice (av 7) (n 7) (pv 7)] ∧ Blk wb (b1 + 1) 36 [.slice (bv 0) (n 0) (qv 0), .slice (bv 1) (n 1) (qv 1), .slice (bv 2) (n 2) (qv 2), .slice (bv 3) (n 3) (qv 3), .slice (bv 4) (n 4) (qv 4), .slice (bv 5) (n 5) (qv 5), .slice (bv 6) (n 6) (qv 6), .slice (bv 7) (n 7) (qv 7)]) := hid (by
    rw [← hwb]
    refine ⟨(nbel w _).trans ((nbel _ _).mono (by simp)), Blk.alloc ?_ _, ?_⟩
    · rw [← hb1]; exact Blk.new w [.slice (av 0) (n 0) (pv 0), .slice (av 1) (n 1) (pv 1), .slice (av 2) (n 2) (pv 2), .slice (av 3) (n 3) (pv 3), .slice (av 4) (n 4) (pv 4), .slice (av 5) (n 5) (pv 5), .slice (av 6) (n 6) (pv 6), .slice (av 7) (n 7) (pv 7)] _
    · rw [← hsz]; exact Blk.new _ [.slice (bv 0) (n 0) (qv 0), .slice (bv 1) (n 1) (qv 1), .slice (bv 2) (n 2) (qv 2), .slice (bv 3) (n 3) (qv 3), .slice (bv 4) (n 4) (qv 4), .slice (bv 5) (n 5) (qv 5), .slice (bv 6) (n 6) (qv 6), .slice (bv 7) (n 7) (qv 7)] _)
  go_enter Try.func43, Try.ntmps43
  go_upto_region 1 with fail
  (try simp only [hwb, hsz, hb1])
  clear hwb hsz hb1 HX
  have c0 : wb.cell? ⟨b1, 0, none⟩ = some (.slice (av 0) (n 0) (pv 0)) := HB0.out.2.1.cell 0
  have d0 : wb.cell? ⟨b1 + 1, 0, none⟩ = some (.slice (bv 0) (n 0) (qv 0)) := HB0.out.2.2.cell 0
  go_wp2_with fail
  refine (HSB.out _ HB0.out.1 0 (by decide)).mono ?_
  rintro e0 w1 ⟨rfl, hb⟩
  have HB1 := hid (And.intro (HB0.out.1.trans (hb.mono HB0.out.1.size)) (And.intro (HB0.out.2.1.below hb) (HB0.out.2.2.below hb)))
  clear c0 d0 hb HB0
  have c1 : w1.cell? ⟨b1, 1, none⟩ = some (.slice (av 1) (n 1) (pv 1)) := HB1.out.2.1.cell 1
  have d1 : w1.cell? ⟨b1 + 1, 1, none⟩ = some (.slice (bv 1) (n 1) (qv 1)) := HB1.out.2.2.cell 1
  go_wp2_with fail
  refine (HSB.out _ HB1.out.1 1 (by decide)).mono ?_
  rintro e1 w2 ⟨rfl, hb⟩
  have HB2 := hid (And.intro (HB1.out.1.trans (hb.mono HB1.out.1.size)) (And.intro (HB1.out.2.1.below hb) (HB1.out.2.2.below hb)))
  clear c1 d1 hb HB1
  have c2 : w2.cell? ⟨b1, 2, none⟩ = some (.slice (av 2) (n 2) (pv 2)) := HB2.out.2.1.cell 2
  have d2 : w2.cell? ⟨b1 + 1, 2, none⟩ = some (.slice (bv 2) (n 2) (qv 2)) := HB2.out.2.2.cell 2
  go_wp2_with fail
  refine (HSB.out _ HB2.out.1 2 (by decide)).mono ?_
  rintro e2 w3 ⟨rfl, hb⟩
  have HB3 := hid (And.intro (HB2.out.1.trans (hb.mono HB2.out.1.size)) (And.intro (HB2.out.2.1.below hb) (HB2.out.2.2.below hb)))
  clear c2 d2 hb HB2
  have c3 : w3.cell? ⟨b1, 3, none⟩ = some (.slice (av 3) (n 3) (pv 3)) := HB3.out.2.1.cell 3
  have d3 : w3.cell? ⟨b1 + 1, 3, none⟩ = some (.slice (bv 3) (n 3) (qv 3)) := HB3.out.2.2.cell 3
  go_wp2_with fail
  refine (HSB.out _ HB3.out.1 3 (by decide)).mono ?_
  rintro e3 w4 ⟨rfl, hb⟩
  have HB4 := hid (And.intro (HB3.out.1.trans (hb.mono HB3.out.1.size)) (And.intro (HB3.out.2.1.below hb) (HB3.out.2.2.below hb)))
  clear c3 d3 hb HB3
  have c4 : w4.cell? ⟨b1, 4, none⟩ = some (.slice (av 4) (n 4) (pv 4)) := HB4.out.2.1.cell 4
  have d4 : w4.cell? ⟨b1 + 1, 4, none⟩ = some (.slice (bv 4) (n 4) (qv 4)) := HB4.out.2.2.cell 4
  go_wp2_with fail
  refine (HSB.out _ HB4.out.1 4 (by decide)).mono ?_
  rintro e4 w5 ⟨rfl, hb⟩
  have HB5 := hid (And.intro (HB4.out.1.trans (hb.mono HB4.out.1.size)) (And.intro (HB4.out.2.1.below hb) (HB4.out.2.2.below hb)))
  clear c4 d4 hb HB4
  have c5 : w5.cell? ⟨b1, 5, none⟩ = some (.slice (av 5) (n 5) (pv 5)) := HB5.out.2.1.cell 5
  have d5 : w5.cell? ⟨b1 + 1, 5, none⟩ = some (.slice (bv 5) (n 5) (qv 5)) := HB5.out.2.2.cell 5
  go_wp2_with fail
  refine (HSB.out _ HB5.out.1 5 (by decide)).mono ?_
  rintro e5 w6 ⟨rfl, hb⟩
  have HB6 := hid (And.intro (HB5.out.1.trans (hb.mono HB5.out.1.size)) (And.intro (HB5.out.2.1.below hb) (HB5.out.2.2.below hb)))
  clear c5 d5 hb HB5
  have c6 : w6.cell? ⟨b1, 6, none⟩ = some (.slice (av 6) (n 6) (pv 6)) := HB6.out.2.1.cell 6
  have d6 : w6.cell? ⟨b1 + 1, 6, none⟩ = some (.slice (bv 6) (n 6) (qv 6)) := HB6.out.2.2.cell 6
  go_wp2_with fail
  refine (HSB.out _ HB6.out.1 6 (by decide)).mono ?_
  rintro e6 w7 ⟨rfl, hb⟩
  have HB7 := hid (And.intro (HB6.out.1.trans (hb.mono HB6.out.1.size)) (And.intro (HB6.out.2.1.below hb) (HB6.out.2.2.below hb)))
  clear c6 d6 hb HB6
  have c7 : w7.cell? ⟨b1, 7, none⟩ = some (.slice (av 7) (n 7) (pv 7)) := HB7.out.2.1.cell 7
  have d7 : w7.cell? ⟨b1 + 1, 7, none⟩ = some (.slice (bv 7) (n 7) (qv 7)) := HB7.out.2.2.cell 7
  go_wp2_with fail
  refine (HSB.out _ HB7.out.1 7 (by decide)).mono ?_
  rintro e7 w8 ⟨rfl, hb⟩
  have HB8 := hid (And.intro (HB7.out.1.trans (hb.mono HB7.out.1.size)) (And.intro (HB7.out.2.1.below hb) (HB7.out.2.2.below hb)))
  clear c7 d7 hb HB7
  go_wp2
  go_ret
  exact ⟨rfl, HB8.out.1⟩
set_option maxRecDepth 1000000 in
set_option maxHeartbeats 8000000 in
theorem sameResult_walk (w : World) (c v : Nat) (av bv : Nat → Option Addr) (n pv qv : Nat → Nat) (xs ys : Nat → List Nat) (hx : ∀ i, i < 8 → RdA w (av i) (n i) (xs i)) (hy : ∀ i, i < 8 → RdA w (bv i) (n i) (ys i)) (hp : ∀ i, i < 8 → (xs i).Perm (ys i)) (hn : ∀ i, i < 8 → n i ≤ 1000000000000000) :
    Calls Try.prog 16 #[.agg #[.int .u8 (c : Int), .int .u64 (v : Int), .slice (av 0) (n 0) (pv 0), .slice (av 1) (n 1) (pv 1), .slice (av 2) (n 2) (pv 2), .slice (av 3) (n 3) (pv 3), .slice (av 4) (n 4) (pv 4), .slice (av 5) (n 5) (pv 5), .slice (av 6) (n 6) (pv 6), .slice (av 7) (n 7) (pv 7)], .agg #[.int .u8 (c : Int), .int .u64 (v : Int), .slice (bv 0) (n 0) (qv 0), .slice (bv 1) (n 1) (qv 1), .slice (bv 2) (n 2) (qv 2), .slice (bv 3) (n 3) (qv 3), .slice (bv 4) (n 4) (qv 4), .slice (bv 5) (n 5) (qv 5), .slice (bv 6) (n 6) (qv 6), .slice (bv 7) (n 7) (qv 7)]] w fun e w' => e = .returned (.bool true) ∧ Below w.heap.size w w' := by
  have HSB : Hid (∀ wx, Below w.heap.size w wx → Calls Try.prog 43 #[.agg #[.slice (av 0) (n 0) (pv 0), .slice (av 1) (n 1) (pv 1), .slice (av 2) (n 2) (pv 2), .slice (av 3) (n 3) (pv 3), .slice (av 4) (n 4) (pv 4), .slice (av 5) (n 5) (pv 5), .slice (av 6) (n 6) (pv 6), .slice (av 7) (n 7) (pv 7)], .agg #[.slice (bv 0) (n 0) (qv 0), .slice (bv 1) (n 1) (qv 1), .slice (bv 2) (n 2) (qv 2), .slice (bv 3) (n 3) (qv 3), .slice (bv 4) (n 4) (qv 4), .slice (bv 5) (n 5) (qv 5), .slice (bv 6) (n 6) (qv 6), .slice (bv 7) (n 7) (qv 7)]] wx fun e w' => e = .returned (.bool true) ∧ Below wx.heap.size wx w') := hid (fun wx hb => sameHarvest_walk wx av bv n pv qv xs ys (fun i hi => (hx i hi).below hb) (fun i hi => (hy i hi).below hb) hp hn)
  clear hx hy hp hn
  obtain ⟨b1, hb1⟩ : ∃ b, w.heap.size = b := ⟨_, rfl⟩
  obtain ⟨wb, hwb⟩ : ∃ x, (w.alloc (.cells #[.int .u8 (c : Int), .int .u64 (v : Int), .slice (av 0) (n 0) (pv 0), .slice (av 1) (n 1) (pv 1), .slice (av 2) (n 2) (pv 2), .slice (av 3) (n 3) (pv 3), .slice (av 4) (n 4) (pv 4), .slice (av 5) (n 5) (pv 5), .slice (av 6) (n 6) (pv 6), .slice (av 7) (n 7) (pv 7)] 38)).alloc (.cells #[.int .u8 (c : Int), .int .u64 (v : Int), .slice (bv 0) (n 0) (qv 0), .slice (bv 1) (n 1) (qv 1), .slice (bv 2) (n 2) (qv 2), .slice (bv 3) (n 3) (qv 3), .slice (bv 4) (n 4) (qv 4), .slice (bv 5) (n 5) (qv 5), .slice (bv 6) (n 6) (qv 6), .slice (bv 7) (n 7) (qv 7)] 38) = x := ⟨_, rfl⟩
  have hsz : (w.alloc (.cells #[.int .u8 (c : Int), .int .u64 (v : Int), .slice (av 0) (n 0) (pv 0), .slice (av 1) (n 1) (pv 1), .slice (av 2) (n 2) (pv 2), .slice (av 3) (n 3) (pv 3), .slice (av 4) (n 4) (pv 4), .slice (av 5) (n 5) (pv 5), .slice (av 6) (n 6) (pv 6), .slice (av 7) (n 7) (pv 7)] 38)).heap.size = b1 + 1 := by simp [hb1]
  have HB0 : Hid (Below w.heap.size w wb ∧ Blk wb b1 38 [.int .u8 (c : Int), .int .u64 (v : Int), .slice (av 0) (n 0) (pv 0), .slice (av 1) (n 1) (pv 1), .slice (av 2) (n 2) (pv 2), .slice (av 3) (n 3) (pv 3), .slice (av 4) (n 4) (pv 4), .slice (av 5) (n 5) (pv 5), .slice (av 6) (n 6) (pv 6), .slice (av 7) (n 7) (pv 7)] ∧ Blk wb (b1 + 1) 38 [.int .u8 (c : Int), .int .u64 (v : Int), .slice (bv 0) (n 0) (qv 0), .slice (bv 1) (n 1) (qv 1), .slice (bv 2) (n 2) (qv 2), .slice (bv 3) (n 3) (qv 3), .slice (bv 4) (n 4) (qv 4), .slice (bv 5) (n 5) (qv 5), .slice (bv 6) (n 6) (qv 6), .slice (bv 7) (n 7) (qv 7)]) := hid (by
    rw [← hwb]
    refine ⟨(nbel w _).trans ((nbel _ _).mono (by simp)), Blk.alloc ?_ _, ?_⟩
    · rw [← hb1]; exact Blk.new w [.int .u8 (c : Int), .int .u64 (v : Int), .slice (av 0) (n 0) (pv 0), .slice (av 1) (n 1) (pv 1), .slice (av 2) (n 2) (pv 2), .slice (av 3) (n 3) (pv 3), .slice (av 4) (n 4) (pv 4), .slice (av 5) (n 5) (pv 5), .slice (av 6) (n 6) (pv 6), .slice (av 7) (n 7) (pv 7)] _
    · rw [← hsz]; exact Blk.new _ [.int .u8 (c : Int), .int .u64 (v : Int), .slice (bv 0) (n 0) (qv 0), .slice (bv 1) (n 1) (qv 1), .slice (bv 2) (n 2) (qv 2), .slice (bv 3) (n 3) (qv 3), .slice (bv 4) (n 4) (qv 4), .slice (bv 5) (n 5) (qv 5), .slice (bv 6) (n 6) (qv 6), .slice (bv 7) (n 7) (qv 7)] _)
  go_enter Try.func16, Try.ntmps16
  go_upto_region 1 with fail
  (try simp only [hwb, hsz, hb1])
  clear hwb hsz hb1
  have x0 : wb.cell? ⟨b1, 0, none⟩ = some (.int .u8 (c : Int)) := HB0.out.2.1.cell 0
  have y0 : wb.cell? ⟨b1 + 1, 0, none⟩ = some (.int .u8 (c : Int)) := HB0.out.2.2.cell 0
  have x1 : wb.cell? ⟨b1, 1, none⟩ = some (.int .u64 (v : Int)) := HB0.out.2.1.cell 1
  have y1 : wb.cell? ⟨b1 + 1, 1, none⟩ = some (.int .u64 (v : Int)) := HB0.out.2.2.cell 1
  have c0 : wb.cell? ⟨b1, 2, none⟩ = some (.slice (av 0) (n 0) (pv 0)) := HB0.out.2.1.cell 2
  have d0 : wb.cell? ⟨b1 + 1, 2, none⟩ = some (.slice (bv 0) (n 0) (qv 0)) := HB0.out.2.2.cell 2
  have c1 : wb.cell? ⟨b1, 3, none⟩ = some (.slice (av 1) (n 1) (pv 1)) := HB0.out.2.1.cell 3
  have d1 : wb.cell? ⟨b1 + 1, 3, none⟩ = some (.slice (bv 1) (n 1) (qv 1)) := HB0.out.2.2.cell 3
  have c2 : wb.cell? ⟨b1, 4, none⟩ = some (.slice (av 2) (n 2) (pv 2)) := HB0.out.2.1.cell 4
  have d2 : wb.cell? ⟨b1 + 1, 4, none⟩ = some (.slice (bv 2) (n 2) (qv 2)) := HB0.out.2.2.cell 4
  have c3 : wb.cell? ⟨b1, 5, none⟩ = some (.slice (av 3) (n 3) (pv 3)) := HB0.out.2.1.cell 5
  have d3 : wb.cell? ⟨b1 + 1, 5, none⟩ = some (.slice (bv 3) (n 3) (qv 3)) := HB0.out.2.2.cell 5
  have c4 : wb.cell? ⟨b1, 6, none⟩ = some (.slice (av 4) (n 4) (pv 4)) := HB0.out.2.1.cell 6
  have d4 : wb.cell? ⟨b1 + 1, 6, none⟩ = some (.slice (bv 4) (n 4) (qv 4)) := HB0.out.2.2.cell 6
  have c5 : wb.cell? ⟨b1, 7, none⟩ = some (.slice (av 5) (n 5) (pv 5)) := HB0.out.2.1.cell 7
  have d5 : wb.cell? ⟨b1 + 1, 7, none⟩ = some (.slice (bv 5) (n 5) (qv 5)) := HB0.out.2.2.cell 7
  have c6 : wb.cell? ⟨b1, 8, none⟩ = some (.slice (av 6) (n 6) (pv 6)) := HB0.out.2.1.cell 8
  have d6 : wb.cell? ⟨b1 + 1, 8, none⟩ = some (.slice (bv 6) (n 6) (qv 6)) := HB0.out.2.2.cell 8
  have c7 : wb.cell? ⟨b1, 9, none⟩ = some (.slice (av 7) (n 7) (pv 7)) := HB0.out.2.1.cell 9
  have d7 : wb.cell? ⟨b1 + 1, 9, none⟩ = some (.slice (bv 7) (n 7) (qv 7)) := HB0.out.2.2.cell 9
  have q1 : ((c : Int) == (c : Int)) = true := by simp
  have q2 : ((v : Int) == (v : Int)) = true := by simp
  go_wp2_with fail
  refine (HSB.out _ HB0.out.1).mono ?_
  rintro e w1 ⟨rfl, hb⟩
  have HB1 := hid (HB0.out.1.trans (hb.mono HB0.out.1.size))
  clear x0 y0 x1 y1 c0 c1 c2 c3 c4 c5 c6 c7 d0 d1 d2 d3 d4 d5 d6 d7 hb HB0
  go_wp2
  go_ret
  exact ⟨rfl, HB1.out⟩
end Go.Proofs.Qxb6500888a
