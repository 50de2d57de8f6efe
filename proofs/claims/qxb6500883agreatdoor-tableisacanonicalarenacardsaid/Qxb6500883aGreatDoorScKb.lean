/- measureBits. -/
import Derived.Test.Qxb6500883aGreatDoorScKa
namespace Go.Proofs.Qxb6500883aGreatDoor
open Go.RowKit
set_option linter.unusedSimpArgs false
set_option linter.unusedVariables false
/-- The measures under way, in a block of one's own. -/
def MLo (w : World) (p : Nat) (cs : List Value) (wz : World) : Prop := Blk wz p 221 cs ∧ Below w.heap.size w wz ∧ w.heap.size ≤ p
theorem agg_ms : AggOf Tryz.prog 221 5 := AggOf.struct Tryz.underlying221 (by kernel_rfl)
section
variable {τ τ' : Rl} {w w' w0 w1 w2 : World} {tB : Nat} {V V' : TV} {T T' : TS}
theorem MLo.set {p : Nat} {cs : List Value} {wz : World} (h : MLo w p cs wz) (j : Nat) (v : Value) : MLo w p (cs.set j v) (wz.setCell ⟨p, j, none⟩ v) :=
  ⟨h.1.set j v, Below.updN h.2.1 ((Upd.refl p wz).setCell rfl v) h.2.2 h.2.1.size, h.2.2⟩
theorem MLo.below {p : Nat} {cs : List Value} {wz wy : World} (h : MLo w p cs wz) (hb : Below wz.heap.size wz wy) : MLo w p cs wy := ⟨h.1.below hb, h.2.1.trans (hb.mono h.2.1.size), h.2.2⟩
theorem MLo.start {p : Nat} (hp : w.heap.size = p) : MLo w p [.bool false, .int .u64 0, .int .u64 0, .int .u64 0, .int .i64 0] (w.alloc (.cells #[.bool false, .int .u64 0, .int .u64 0, .int .u64 0, .int .i64 0] 221)) := by
  have k := Blk.new w [.bool false, .int .u64 0, .int .u64 0, .int .u64 0, .int .i64 0] 221
  rw [hp] at k
  exact ⟨k, nbel w _, by omega⟩
theorem MLo.cell {p g j : Nat} {cs : List Value} {wz : World} {v : Value} (h : MLo w p cs wz) (hg : g < w.heap.size) (hv : w.cell? ⟨g, j, none⟩ = some v) : wz.cell? ⟨g, j, none⟩ = some v := by rw [keepCell _ (h.2.1.block g hg)]; exact hv
set_option maxRecDepth 100000 in
set_option maxHeartbeats 4000000 in
theorem measureBits5 {g o len : Nat} (hk : w.cell? ⟨g, o, none⟩ = some (.int .u8 5)) (hl : w.cell? ⟨g, o + 6, none⟩ = some (.int .u64 (len : Int))) (hg : g < w.heap.size) (hb : len < 18446744073709551616) : Calls Tryz.prog 124 #[.pointer (some ⟨g, o, none⟩)] w fun e w' => MsQ (MsBit 5 len) e ∧ Below w.heap.size w w' := by
  obtain ⟨p, hp⟩ : ∃ p, w.heap.size = p := ⟨_, rfl⟩
  have H1 := hid (MLo.start hp)
  have HK := hid (And.intro hg (And.intro hk hl))
  clear hk hl hg
  go_enter Tryz.func124, Tryz.ntmps124
  go_upto_region 1 with fail
  (try simp only [hp])
  generalize w.alloc _ = w1 at H1 ⊢
  clear hp
  have r0 := H1.out.cell HK.out.1 HK.out.2.1
  have a0 : w1.cell? ⟨p, 0, none⟩ = some (.bool false) := H1.out.1.cell 0
  have az0 : w1.frozen? ⟨p, 0, none⟩ = false := H1.out.1.frozen 0
  have a1 : w1.cell? ⟨p, 1, none⟩ = some (.int .u64 0) := H1.out.1.cell 1
  have az1 : w1.frozen? ⟨p, 1, none⟩ = false := H1.out.1.frozen 1
  have a2 : w1.cell? ⟨p, 2, none⟩ = some (.int .u64 0) := H1.out.1.cell 2
  have az2 : w1.frozen? ⟨p, 2, none⟩ = false := H1.out.1.frozen 2
  have a3 : w1.cell? ⟨p, 3, none⟩ = some (.int .u64 0) := H1.out.1.cell 3
  have az3 : w1.frozen? ⟨p, 3, none⟩ = false := H1.out.1.frozen 3
  have a4 : w1.cell? ⟨p, 4, none⟩ = some (.int .i64 0) := H1.out.1.cell 4
  have az4 : w1.frozen? ⟨p, 4, none⟩ = false := H1.out.1.frozen 4
  have H2 := hid (H1.out.set 0 (.bool true))
  go_upto_region 3 with fail
  generalize w1.setCell _ _ = w2 at H2 ⊢
  clear a0 az0 a1 az1 a2 az2 a3 az3 a4 az4
  clear r0 H1
  have r6 := H2.out.cell HK.out.1 HK.out.2.2
  have a0 : w2.cell? ⟨p, 0, none⟩ = some (.bool true) := H2.out.1.cell 0
  have az0 : w2.frozen? ⟨p, 0, none⟩ = false := H2.out.1.frozen 0
  have a1 : w2.cell? ⟨p, 1, none⟩ = some (.int .u64 0) := H2.out.1.cell 1
  have az1 : w2.frozen? ⟨p, 1, none⟩ = false := H2.out.1.frozen 1
  have a2 : w2.cell? ⟨p, 2, none⟩ = some (.int .u64 0) := H2.out.1.cell 2
  have az2 : w2.frozen? ⟨p, 2, none⟩ = false := H2.out.1.frozen 2
  have a3 : w2.cell? ⟨p, 3, none⟩ = some (.int .u64 0) := H2.out.1.cell 3
  have az3 : w2.frozen? ⟨p, 3, none⟩ = false := H2.out.1.frozen 3
  have a4 : w2.cell? ⟨p, 4, none⟩ = some (.int .i64 0) := H2.out.1.cell 4
  have az4 : w2.frozen? ⟨p, 4, none⟩ = false := H2.out.1.frozen 4
  have HA := hid (ceilDivW len 8 hb (by decide) (by decide) w2)
  obtain ⟨mx, hmx⟩ : ∃ q, (len + 8 - 1) / 8 = q := ⟨_, rfl⟩
  rw [hmx] at HA
  have Hmx := hid hmx
  have hmb : mx < 18446744073709551616 := by omega
  clear hmx
  go_wp2_with fail
  refine HA.out.mono ?_
  rintro e w3 ⟨rfl, rfl⟩
  clear HA
  have H3 := hid (H2.out.set 2 (.int .u64 (mx : Int)))
  go_upto_region 4 with fail
  generalize hw3 : w3.setCell _ _ = w4 at H3 ⊢
  clear hw3
  clear a0 az0 a1 az1 a2 az2 a3 az3 a4 az4
  clear r6 H2
  have a0 : w4.cell? ⟨p, 0, none⟩ = some (.bool true) := H3.out.1.cell 0
  have az0 : w4.frozen? ⟨p, 0, none⟩ = false := H3.out.1.frozen 0
  have a1 : w4.cell? ⟨p, 1, none⟩ = some (.int .u64 0) := H3.out.1.cell 1
  have az1 : w4.frozen? ⟨p, 1, none⟩ = false := H3.out.1.frozen 1
  have a2 : w4.cell? ⟨p, 2, none⟩ = some (.int .u64 (mx : Int)) := H3.out.1.cell 2
  have az2 : w4.frozen? ⟨p, 2, none⟩ = false := H3.out.1.frozen 2
  have a3 : w4.cell? ⟨p, 3, none⟩ = some (.int .u64 0) := H3.out.1.cell 3
  have az3 : w4.frozen? ⟨p, 3, none⟩ = false := H3.out.1.frozen 3
  have a4 : w4.cell? ⟨p, 4, none⟩ = some (.int .i64 0) := H3.out.1.cell 4
  have az4 : w4.frozen? ⟨p, 4, none⟩ = false := H3.out.1.frozen 4
  have H4 := hid (H3.out.set 1 (.int .u64 (mx : Int)))
  go_upto_region 7 with fail
  generalize hw4 : w4.setCell _ _ = w5 at H4 ⊢
  clear hw4
  clear a0 az0 a1 az1 a2 az2 a3 az3 a4 az4
  clear H3
  have a0 : w5.cell? ⟨p, 0, none⟩ = some (.bool true) := H4.out.1.cell 0
  have az0 : w5.frozen? ⟨p, 0, none⟩ = false := H4.out.1.frozen 0
  have a1 : w5.cell? ⟨p, 1, none⟩ = some (.int .u64 (mx : Int)) := H4.out.1.cell 1
  have az1 : w5.frozen? ⟨p, 1, none⟩ = false := H4.out.1.frozen 1
  have a2 : w5.cell? ⟨p, 2, none⟩ = some (.int .u64 (mx : Int)) := H4.out.1.cell 2
  have az2 : w5.frozen? ⟨p, 2, none⟩ = false := H4.out.1.frozen 2
  have a3 : w5.cell? ⟨p, 3, none⟩ = some (.int .u64 0) := H4.out.1.cell 3
  have az3 : w5.frozen? ⟨p, 3, none⟩ = false := H4.out.1.frozen 3
  have a4 : w5.cell? ⟨p, 4, none⟩ = some (.int .i64 0) := H4.out.1.cell 4
  have az4 : w5.frozen? ⟨p, 4, none⟩ = false := H4.out.1.frozen 4
  by_cases hbig : 4294967295 < mx
  · have d1 : decide ((mx : Int) > 4294967295) = true := decide_eq_true (by omega)
    have d1n : decide (mx > 4294967295) = true := decide_eq_true hbig
    have d1m : decide (4294967295 < mx) = true := decide_eq_true hbig
    have H9 : Hid (MLo w p (msC ⟨true, mx, mx, 0, 0⟩) (((((w5.setCell ⟨p, 0, none⟩ (.bool true)).setCell ⟨p, 1, none⟩ (.int .u64 (mx : Int))).setCell ⟨p, 2, none⟩ (.int .u64 (mx : Int))).setCell ⟨p, 3, none⟩ (.int .u64 0)).setCell ⟨p, 4, none⟩ (.int .i64 0))) := hid (((((H4.out.set 0 (.bool true)).set 1 (.int .u64 (mx : Int))).set 2 (.int .u64 (mx : Int))).set 3 (.int .u64 0)).set 4 (.int .i64 0))
    go_wp2_with fail
    refine bodyPost_ret (results_cell_tmp (cs := msC ⟨true, mx, mx, 0, 0⟩) Tryz.results124 rfl agg_ms H9.out.1) rfl ⟨⟨⟨true, mx, mx, 0, 0⟩, false, rfl, fun hok => ?_, fun hok => ?_⟩, H9.out.2.1⟩
    · cases hok
    · intro m' hm
      have h1 := hm.mx
      have h2 := hm.le
      have h3 := Hmx.out
      rw [if_pos rfl] at h1
      omega
  have d1 : decide ((mx : Int) > 4294967295) = false := decide_eq_false (by omega)
  have d1n : decide (mx > 4294967295) = false := decide_eq_false hbig
  have d1m : decide (4294967295 < mx) = false := decide_eq_false hbig
  have r6 := H4.out.cell HK.out.1 HK.out.2.2
  have HA := hid (ceilDivW len 256 hb (by decide) (by decide) w5)
  obtain ⟨ck, hck⟩ : ∃ q, (len + 256 - 1) / 256 = q := ⟨_, rfl⟩
  rw [hck] at HA
  have Hck := hid hck
  have hckb : ck < 18446744073709551616 := by omega
  clear hck
  go_wp2_with fail
  refine HA.out.mono ?_
  rintro e w6 ⟨rfl, rfl⟩
  clear HA
  have H5 := hid (H4.out.set 3 (.int .u64 (ck : Int)))
  go_upto_region 10 with fail
  generalize hw3 : w6.setCell _ _ = w7 at H5 ⊢
  clear hw3
  clear a0 az0 a1 az1 a2 az2 a3 az3 a4 az4
  clear r6 H4 d1 d1n d1m
  have a0 : w7.cell? ⟨p, 0, none⟩ = some (.bool true) := H5.out.1.cell 0
  have az0 : w7.frozen? ⟨p, 0, none⟩ = false := H5.out.1.frozen 0
  have a1 : w7.cell? ⟨p, 1, none⟩ = some (.int .u64 (mx : Int)) := H5.out.1.cell 1
  have az1 : w7.frozen? ⟨p, 1, none⟩ = false := H5.out.1.frozen 1
  have a2 : w7.cell? ⟨p, 2, none⟩ = some (.int .u64 (mx : Int)) := H5.out.1.cell 2
  have az2 : w7.frozen? ⟨p, 2, none⟩ = false := H5.out.1.frozen 2
  have a3 : w7.cell? ⟨p, 3, none⟩ = some (.int .u64 (ck : Int)) := H5.out.1.cell 3
  have az3 : w7.frozen? ⟨p, 3, none⟩ = false := H5.out.1.frozen 3
  have a4 : w7.cell? ⟨p, 4, none⟩ = some (.int .i64 0) := H5.out.1.cell 4
  have az4 : w7.frozen? ⟨p, 4, none⟩ = false := H5.out.1.frozen 4
  have HA := hid (ceilLog2W ck hckb w7)
  go_wp2_with fail
  refine HA.out.mono ?_
  rintro e w8 ⟨d, rfl, hd, hdl, rfl⟩
  clear HA
  have H6 := hid (H5.out.set 4 (.int .i64 (d : Int)))
  go_upto_region 11 with fail
  generalize hw3 : w8.setCell _ _ = w9 at H6 ⊢
  clear hw3
  clear a0 az0 a1 az1 a2 az2 a3 az3 a4 az4
  clear H5
  have r0 := H6.out.cell HK.out.1 HK.out.2.1
  have a0 : w9.cell? ⟨p, 0, none⟩ = some (.bool true) := H6.out.1.cell 0
  have az0 : w9.frozen? ⟨p, 0, none⟩ = false := H6.out.1.frozen 0
  have a1 : w9.cell? ⟨p, 1, none⟩ = some (.int .u64 (mx : Int)) := H6.out.1.cell 1
  have az1 : w9.frozen? ⟨p, 1, none⟩ = false := H6.out.1.frozen 1
  have a2 : w9.cell? ⟨p, 2, none⟩ = some (.int .u64 (mx : Int)) := H6.out.1.cell 2
  have az2 : w9.frozen? ⟨p, 2, none⟩ = false := H6.out.1.frozen 2
  have a3 : w9.cell? ⟨p, 3, none⟩ = some (.int .u64 (ck : Int)) := H6.out.1.cell 3
  have az3 : w9.frozen? ⟨p, 3, none⟩ = false := H6.out.1.frozen 3
  have a4 : w9.cell? ⟨p, 4, none⟩ = some (.int .i64 (d : Int)) := H6.out.1.cell 4
  have az4 : w9.frozen? ⟨p, 4, none⟩ = false := H6.out.1.frozen 4
  have H9 : Hid (MLo w p (msC ⟨true, mx, mx, ck, d⟩) (((((w9.setCell ⟨p, 0, none⟩ (.bool true)).setCell ⟨p, 1, none⟩ (.int .u64 (mx : Int))).setCell ⟨p, 2, none⟩ (.int .u64 (mx : Int))).setCell ⟨p, 3, none⟩ (.int .u64 (ck : Int))).setCell ⟨p, 4, none⟩ (.int .i64 (d : Int)))) := hid (((((H6.out.set 0 (.bool true)).set 1 (.int .u64 (mx : Int))).set 2 (.int .u64 (mx : Int))).set 3 (.int .u64 (ck : Int))).set 4 (.int .i64 (d : Int)))
  go_wp2_with fail
  refine bodyPost_ret (results_cell_tmp (cs := msC ⟨true, mx, mx, ck, d⟩) Tryz.results124 rfl agg_ms H9.out.1) rfl ⟨⟨⟨true, mx, mx, ck, d⟩, true, rfl, fun hok => ?_, fun hok => ?_⟩, H9.out.2.1⟩
  · have h3 := Hmx.out
    have h4 := Hck.out
    refine ⟨rfl, rfl, ?_, by show mx ≤ _; omega, ?_, d, ⟨hd, hdl.out.1, hdl.out.2⟩, rfl⟩
    · show mx = if 5 = 5 then (len + 7) / 8 else len / 8 + 1
      rw [if_pos rfl]; omega
    · show ck = _
      omega
  · cases hok
set_option maxRecDepth 100000 in
set_option maxHeartbeats 4000000 in
theorem measureBits6 {g o len : Nat} (hk : w.cell? ⟨g, o, none⟩ = some (.int .u8 6)) (hl : w.cell? ⟨g, o + 6, none⟩ = some (.int .u64 (len : Int))) (hg : g < w.heap.size) (hb : len < 18446744073709551616) : Calls Tryz.prog 124 #[.pointer (some ⟨g, o, none⟩)] w fun e w' => MsQ (MsBit 6 len) e ∧ Below w.heap.size w w' := by
  obtain ⟨p, hp⟩ : ∃ p, w.heap.size = p := ⟨_, rfl⟩
  have H1 := hid (MLo.start hp)
  have HK := hid (And.intro hg (And.intro hk hl))
  clear hk hl hg
  obtain ⟨q8, hq8⟩ : ∃ q, len / 8 = q := ⟨_, rfl⟩
  have e8 : (len : Int) / 8 = (q8 : Int) := by omega
  have e9 : IntKind.u64.wrap ((q8 : Int) + 1) = (q8 : Int) + 1 := by rw [IntKind.wrap_u64]; omega
  have e7 : IntKind.u64.wrap (q8 : Int) = (q8 : Int) := by rw [IntKind.wrap_u64]; omega
  have Hq8 := hid hq8
  clear hq8
  obtain ⟨mx, hmx⟩ : ∃ q, q8 + 1 = q := ⟨_, rfl⟩
  have emx : (q8 : Int) + 1 = (mx : Int) := by omega
  have Hmx := hid hmx
  have hmb : mx < 18446744073709551616 := by have := Hq8.out; omega
  clear hmx
  rw [emx] at e9
  go_enter Tryz.func124, Tryz.ntmps124
  go_upto_region 1 with fail
  (try simp only [hp])
  generalize w.alloc _ = w1 at H1 ⊢
  clear hp
  have r0 := H1.out.cell HK.out.1 HK.out.2.1
  have a0 : w1.cell? ⟨p, 0, none⟩ = some (.bool false) := H1.out.1.cell 0
  have az0 : w1.frozen? ⟨p, 0, none⟩ = false := H1.out.1.frozen 0
  have a1 : w1.cell? ⟨p, 1, none⟩ = some (.int .u64 0) := H1.out.1.cell 1
  have az1 : w1.frozen? ⟨p, 1, none⟩ = false := H1.out.1.frozen 1
  have a2 : w1.cell? ⟨p, 2, none⟩ = some (.int .u64 0) := H1.out.1.cell 2
  have az2 : w1.frozen? ⟨p, 2, none⟩ = false := H1.out.1.frozen 2
  have a3 : w1.cell? ⟨p, 3, none⟩ = some (.int .u64 0) := H1.out.1.cell 3
  have az3 : w1.frozen? ⟨p, 3, none⟩ = false := H1.out.1.frozen 3
  have a4 : w1.cell? ⟨p, 4, none⟩ = some (.int .i64 0) := H1.out.1.cell 4
  have az4 : w1.frozen? ⟨p, 4, none⟩ = false := H1.out.1.frozen 4
  have H2 := hid (H1.out.set 1 (.int .u64 1))
  go_upto_region 6 with fail
  generalize w1.setCell _ _ = w2 at H2 ⊢
  clear a0 az0 a1 az1 a2 az2 a3 az3 a4 az4
  clear r0 H1
  have r6 := H2.out.cell HK.out.1 HK.out.2.2
  have a0 : w2.cell? ⟨p, 0, none⟩ = some (.bool false) := H2.out.1.cell 0
  have az0 : w2.frozen? ⟨p, 0, none⟩ = false := H2.out.1.frozen 0
  have a1 : w2.cell? ⟨p, 1, none⟩ = some (.int .u64 1) := H2.out.1.cell 1
  have az1 : w2.frozen? ⟨p, 1, none⟩ = false := H2.out.1.frozen 1
  have a2 : w2.cell? ⟨p, 2, none⟩ = some (.int .u64 0) := H2.out.1.cell 2
  have az2 : w2.frozen? ⟨p, 2, none⟩ = false := H2.out.1.frozen 2
  have a3 : w2.cell? ⟨p, 3, none⟩ = some (.int .u64 0) := H2.out.1.cell 3
  have az3 : w2.frozen? ⟨p, 3, none⟩ = false := H2.out.1.frozen 3
  have a4 : w2.cell? ⟨p, 4, none⟩ = some (.int .i64 0) := H2.out.1.cell 4
  have az4 : w2.frozen? ⟨p, 4, none⟩ = false := H2.out.1.frozen 4
  have H4 := hid (H2.out.set 2 (.int .u64 (mx : Int)))
  go_upto_region 7 with fail
  (try simp only [emx])
  generalize hw4 : w2.setCell _ _ = w5 at H4 ⊢
  clear hw4
  clear a0 az0 a1 az1 a2 az2 a3 az3 a4 az4
  clear H2 r6 e7 e8 e9
  have a0 : w5.cell? ⟨p, 0, none⟩ = some (.bool false) := H4.out.1.cell 0
  have az0 : w5.frozen? ⟨p, 0, none⟩ = false := H4.out.1.frozen 0
  have a1 : w5.cell? ⟨p, 1, none⟩ = some (.int .u64 1) := H4.out.1.cell 1
  have az1 : w5.frozen? ⟨p, 1, none⟩ = false := H4.out.1.frozen 1
  have a2 : w5.cell? ⟨p, 2, none⟩ = some (.int .u64 (mx : Int)) := H4.out.1.cell 2
  have az2 : w5.frozen? ⟨p, 2, none⟩ = false := H4.out.1.frozen 2
  have a3 : w5.cell? ⟨p, 3, none⟩ = some (.int .u64 0) := H4.out.1.cell 3
  have az3 : w5.frozen? ⟨p, 3, none⟩ = false := H4.out.1.frozen 3
  have a4 : w5.cell? ⟨p, 4, none⟩ = some (.int .i64 0) := H4.out.1.cell 4
  have az4 : w5.frozen? ⟨p, 4, none⟩ = false := H4.out.1.frozen 4
  by_cases hbig : 4294967295 < mx
  · have d1 : decide ((mx : Int) > 4294967295) = true := decide_eq_true (by omega)
    have d1n : decide (mx > 4294967295) = true := decide_eq_true hbig
    have d1m : decide (4294967295 < mx) = true := decide_eq_true hbig
    have H9 : Hid (MLo w p (msC ⟨false, 1, mx, 0, 0⟩) (((((w5.setCell ⟨p, 0, none⟩ (.bool false)).setCell ⟨p, 1, none⟩ (.int .u64 1)).setCell ⟨p, 2, none⟩ (.int .u64 (mx : Int))).setCell ⟨p, 3, none⟩ (.int .u64 0)).setCell ⟨p, 4, none⟩ (.int .i64 0))) := hid (((((H4.out.set 0 (.bool false)).set 1 (.int .u64 1)).set 2 (.int .u64 (mx : Int))).set 3 (.int .u64 0)).set 4 (.int .i64 0))
    go_wp2_with fail
    refine bodyPost_ret (results_cell_tmp (cs := msC ⟨false, 1, mx, 0, 0⟩) Tryz.results124 rfl agg_ms H9.out.1) rfl ⟨⟨⟨false, 1, mx, 0, 0⟩, false, rfl, fun hok => ?_, fun hok => ?_⟩, H9.out.2.1⟩
    · cases hok
    · intro m' hm
      have h1 := hm.mx
      have h2 := hm.le
      have h3 := Hmx.out
      have h4 := Hq8.out
      rw [if_neg (by decide)] at h1
      omega
  have d1 : decide ((mx : Int) > 4294967295) = false := decide_eq_false (by omega)
  have d1n : decide (mx > 4294967295) = false := decide_eq_false hbig
  have d1m : decide (4294967295 < mx) = false := decide_eq_false hbig
  have r6 := H4.out.cell HK.out.1 HK.out.2.2
  have HA := hid (ceilDivW len 256 hb (by decide) (by decide) w5)
  obtain ⟨ck, hck⟩ : ∃ q, (len + 256 - 1) / 256 = q := ⟨_, rfl⟩
  rw [hck] at HA
  have Hck := hid hck
  have hckb : ck < 18446744073709551616 := by omega
  clear hck
  go_wp2_with fail
  refine HA.out.mono ?_
  rintro e w6 ⟨rfl, rfl⟩
  clear HA
  have H5 := hid (H4.out.set 3 (.int .u64 (ck : Int)))
  go_upto_region 10 with fail
  generalize hw3 : w6.setCell _ _ = w7 at H5 ⊢
  clear hw3
  clear a0 az0 a1 az1 a2 az2 a3 az3 a4 az4
  clear r6 H4 d1 d1n d1m
  have a0 : w7.cell? ⟨p, 0, none⟩ = some (.bool false) := H5.out.1.cell 0
  have az0 : w7.frozen? ⟨p, 0, none⟩ = false := H5.out.1.frozen 0
  have a1 : w7.cell? ⟨p, 1, none⟩ = some (.int .u64 1) := H5.out.1.cell 1
  have az1 : w7.frozen? ⟨p, 1, none⟩ = false := H5.out.1.frozen 1
  have a2 : w7.cell? ⟨p, 2, none⟩ = some (.int .u64 (mx : Int)) := H5.out.1.cell 2
  have az2 : w7.frozen? ⟨p, 2, none⟩ = false := H5.out.1.frozen 2
  have a3 : w7.cell? ⟨p, 3, none⟩ = some (.int .u64 (ck : Int)) := H5.out.1.cell 3
  have az3 : w7.frozen? ⟨p, 3, none⟩ = false := H5.out.1.frozen 3
  have a4 : w7.cell? ⟨p, 4, none⟩ = some (.int .i64 0) := H5.out.1.cell 4
  have az4 : w7.frozen? ⟨p, 4, none⟩ = false := H5.out.1.frozen 4
  have HA := hid (ceilLog2W ck hckb w7)
  go_wp2_with fail
  refine HA.out.mono ?_
  rintro e w8 ⟨d, rfl, hd, hdl, rfl⟩
  clear HA
  have H6 := hid (H5.out.set 4 (.int .i64 (d : Int)))
  go_upto_region 11 with fail
  generalize hw3 : w8.setCell _ _ = w9 at H6 ⊢
  clear hw3
  clear a0 az0 a1 az1 a2 az2 a3 az3 a4 az4
  clear H5
  have r0 := H6.out.cell HK.out.1 HK.out.2.1
  have a0 : w9.cell? ⟨p, 0, none⟩ = some (.bool false) := H6.out.1.cell 0
  have az0 : w9.frozen? ⟨p, 0, none⟩ = false := H6.out.1.frozen 0
  have a1 : w9.cell? ⟨p, 1, none⟩ = some (.int .u64 1) := H6.out.1.cell 1
  have az1 : w9.frozen? ⟨p, 1, none⟩ = false := H6.out.1.frozen 1
  have a2 : w9.cell? ⟨p, 2, none⟩ = some (.int .u64 (mx : Int)) := H6.out.1.cell 2
  have az2 : w9.frozen? ⟨p, 2, none⟩ = false := H6.out.1.frozen 2
  have a3 : w9.cell? ⟨p, 3, none⟩ = some (.int .u64 (ck : Int)) := H6.out.1.cell 3
  have az3 : w9.frozen? ⟨p, 3, none⟩ = false := H6.out.1.frozen 3
  have a4 : w9.cell? ⟨p, 4, none⟩ = some (.int .i64 (d : Int)) := H6.out.1.cell 4
  have az4 : w9.frozen? ⟨p, 4, none⟩ = false := H6.out.1.frozen 4
  have ed : IntKind.i64.wrap ((d : Int) + 1) = ((d + 1 : Nat) : Int) := by rw [IntKind.wrap_i64]; omega
  have ed2 : (d : Int) + 1 = ((d + 1 : Nat) : Int) := by omega
  obtain ⟨d2, hd2⟩ : ∃ q, d + 1 = q := ⟨_, rfl⟩
  rw [hd2] at ed ed2
  have Hd2 := hid hd2
  clear hd2
  have H7 := hid (H6.out.set 4 (.int .i64 (d2 : Int)))
  go_upto_region 13 with fail
  (try simp only [ed, ed2])
  generalize hw3 : w9.setCell _ _ = wa at H7 ⊢
  clear hw3 ed ed2
  clear a0 az0 a1 az1 a2 az2 a3 az3 a4 az4
  clear H6 r0
  have a0 : wa.cell? ⟨p, 0, none⟩ = some (.bool false) := H7.out.1.cell 0
  have az0 : wa.frozen? ⟨p, 0, none⟩ = false := H7.out.1.frozen 0
  have a1 : wa.cell? ⟨p, 1, none⟩ = some (.int .u64 1) := H7.out.1.cell 1
  have az1 : wa.frozen? ⟨p, 1, none⟩ = false := H7.out.1.frozen 1
  have a2 : wa.cell? ⟨p, 2, none⟩ = some (.int .u64 (mx : Int)) := H7.out.1.cell 2
  have az2 : wa.frozen? ⟨p, 2, none⟩ = false := H7.out.1.frozen 2
  have a3 : wa.cell? ⟨p, 3, none⟩ = some (.int .u64 (ck : Int)) := H7.out.1.cell 3
  have az3 : wa.frozen? ⟨p, 3, none⟩ = false := H7.out.1.frozen 3
  have a4 : wa.cell? ⟨p, 4, none⟩ = some (.int .i64 (d2 : Int)) := H7.out.1.cell 4
  have az4 : wa.frozen? ⟨p, 4, none⟩ = false := H7.out.1.frozen 4
  have H9 : Hid (MLo w p (msC ⟨false, 1, mx, ck, d2⟩) (((((wa.setCell ⟨p, 0, none⟩ (.bool false)).setCell ⟨p, 1, none⟩ (.int .u64 1)).setCell ⟨p, 2, none⟩ (.int .u64 (mx : Int))).setCell ⟨p, 3, none⟩ (.int .u64 (ck : Int))).setCell ⟨p, 4, none⟩ (.int .i64 (d2 : Int)))) := hid (((((H7.out.set 0 (.bool false)).set 1 (.int .u64 1)).set 2 (.int .u64 (mx : Int))).set 3 (.int .u64 (ck : Int))).set 4 (.int .i64 (d2 : Int)))
  go_wp2_with fail
  refine bodyPost_ret (results_cell_tmp (cs := msC ⟨false, 1, mx, ck, d2⟩) Tryz.results124 rfl agg_ms H9.out.1) rfl ⟨⟨⟨false, 1, mx, ck, d2⟩, true, rfl, fun hok => ?_, fun hok => ?_⟩, H9.out.2.1⟩
  · have h3 := Hmx.out
    have h5 := Hq8.out
    have h4 := Hck.out
    refine ⟨rfl, rfl, ?_, by show mx ≤ _; omega, ?_, d, ⟨hd, hdl.out.1, hdl.out.2⟩, Hd2.out.symm⟩
    · show mx = if 6 = 5 then (len + 7) / 8 else len / 8 + 1
      rw [if_neg (by decide)]; omega
    · show ck = _
      omega
  · cases hok
end
end Go.Proofs.Qxb6500883aGreatDoor
