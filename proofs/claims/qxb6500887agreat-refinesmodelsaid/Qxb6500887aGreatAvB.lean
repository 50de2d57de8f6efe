/- Every answer equals itself (written by tools/mk_avb.py). -/
import Derived.Test.Qxb6500887aGreatAuF
import Derived.Test.Qxb6500887aGreatAzRa
namespace Go.Proofs.Qxb6500887aGreat
open Go.RowKit
set_option linter.unusedSimpArgs false
set_option linter.unusedVariables false
/-- An answer laid out. -/
def RsF (rs : List Value) : Prop := ∃ (c v u bc x0 x1 x2 x3 x4 x5 x6 x7 x8 x9 x10 x11 x12 x13 x14 x15 x16 x17 x18 x19 x20 x21 x22 x23 x24 x25 x26 x27 x28 x29 : Int) (s : ByteArray), rs = [.int .u8 c, .int .u64 v, .int .u64 u, .string s, .int .i64 x0, .int .i64 x1, .int .i64 x2, .int .i64 x3, .int .i64 x4, .int .i64 x5, .int .i64 x6, .int .i64 x7, .int .i64 x8, .int .i64 x9, .int .i64 x10, .int .i64 x11, .int .i64 x12, .int .i64 x13, .int .i64 x14, .int .i64 x15, .int .u8 bc, .int .i64 x16, .int .i64 x17, .int .i64 x18, .int .i64 x19, .int .i64 x20, .int .i64 x21, .int .i64 x22, .int .i64 x23, .int .i64 x24, .int .i64 x25, .int .i64 x26, .int .i64 x27, .int .i64 x28, .int .i64 x29]
theorem eq4_i (a b c d : Int) (w : World) : (Op.equalIn 9998 42 (.agg #[.int .i64 a, .int .i64 b, .int .i64 c, .int .i64 d]) (.agg #[.int .i64 a, .int .i64 b, .int .i64 c, .int .i64 d])).run Tryz.prog w = .ok true w := by
  have := run_equalIn_ints (P := Tryz.prog) w 9996 42 3 .i64 [a, b, c, d] [a, b, c, d] rfl Tryz.underlying42 Tryz.underlying3 (by intro w; kernel_rfl)
  rw [decide_eq_true rfl] at this
  exact this
set_option maxHeartbeats 4000000 in
set_option maxRecDepth 100000 in
theorem RsF.neq {rs : List Value} (h : RsF rs) (w : World) : (binOp .neq 46 (.agg rs.toArray) (.agg rs.toArray)).run Tryz.prog w = .ok (.bool false) w := by
  obtain ⟨c, v, u, bc, x0, x1, x2, x3, x4, x5, x6, x7, x8, x9, x10, x11, x12, x13, x14, x15, x16, x17, x18, x19, x20, x21, x22, x23, x24, x25, x26, x27, x28, x29, s, rfl⟩ := h
  rw [run_neq_struct]
  simp [go_sem, part, eq4_i]
theorem RsF.c (c v u : Int) : RsF (rsC c v u) := ⟨c, v, u, 0, 0, 0, 0, 0, 0, 0, 0, 0, 0, 0, 0, 0, 0, 0, 0, 0, 0, 0, 0, 0, 0, 0, 0, 0, 0, 0, 0, 0, 0, 0, _, rfl⟩
theorem RsF.g (c v u : Int) : RsF (rsG c v u) := by unfold rsG; split; exact RsF.c _ _ _; exact RsF.c _ _ _
theorem RsF.of {s : ByteArray} {c bc : Int} {us rp lr bi ce : List Int} (h1 : us.length = 8) (h2 : rp.length = 5) (h3 : lr.length = 3) (h4 : bi.length = 6) (h5 : ce.length = 8) : RsF (rsOf s c us rp lr bc bi ce) := by
  obtain ⟨a0, a1, a2, a3, a4, a5, a6, a7, rfl⟩ := len8 h1
  obtain ⟨b0, b1, b2, b3, b4, rfl⟩ := len5 h2
  obtain ⟨c0, c1, c2, rfl⟩ := len3 h3
  obtain ⟨d0, d1, d2, d3, d4, d5, rfl⟩ := len6 h4
  obtain ⟨e0, e1, e2, e3, e4, e5, e6, e7, rfl⟩ := len8 h5
  exact ⟨c, 0, 0, bc, a0, a1, a2, a3, a4, a5, a6, a7, b0, b1, b2, b3, b4, c0, c1, c2, d0, d1, d2, d3, d4, d5, e0, e1, e2, e3, e4, e5, e6, e7, s, rfl⟩
theorem rf_izR (E : ES) (x n : Int) : RsF (izR E x n) := by
  unfold izR
  (repeat' split) <;> first | exact RsF.c _ _ _ | exact RsF.g _ _ _
theorem rf_ldRefE (E : ES) (x n : Int) : RsF (ldRefE E x n) := by
  unfold ldRefE
  (repeat' split) <;> first | exact RsF.c _ _ _ | exact RsF.g _ _ _
theorem rf_owE (E : ES) (a : Int) : RsF (owE E a) := by
  unfold owE
  (repeat' split) <;> first | exact RsF.c _ _ _ | exact RsF.g _ _ _
theorem rf_clR (C : Nat → Nat) (a b : Int) : RsF (clR C a b) := by
  unfold clR
  (repeat' split) <;> first | exact RsF.c _ _ _ | exact RsF.g _ _ _
theorem rf_lhR (T : Nat → Nat) (a : Int) : RsF (lhR T a) := by
  unfold lhR
  (repeat' split) <;> first | exact RsF.c _ _ _ | exact RsF.g _ _ _
theorem rf_fhR (T : Nat → Nat) (a b c : Int) : RsF (fhR T a b c) := by
  unfold fhR
  (repeat' split) <;> first | exact RsF.c _ _ _ | exact RsF.g _ _ _
theorem rf_deR (a : Int) : RsF (deR a) := by
  unfold deR
  (repeat' split) <;> first | exact RsF.c _ _ _ | exact RsF.g _ _ _
theorem rf_szR (a : Int) : RsF (szR a) := by
  unfold szR
  (repeat' split) <;> first | exact RsF.c _ _ _ | exact RsF.g _ _ _
theorem rf_efR (W : Nat → Nat) (a : Int) (mo : Nat) : RsF (efR W a mo) := by
  unfold efR
  (repeat' split) <;> first | exact RsF.c _ _ _ | exact RsF.g _ _ _
theorem rf_fbR (T : Nat → Nat) (a b : Int) : RsF (fbR T a b) := by
  unfold fbR
  (repeat' split) <;> first | exact RsF.c _ _ _ | exact RsF.g _ _ _
theorem rf_noR (H : Nat → Bool) (a b : Int) : RsF (noR H a b) := by
  unfold noR
  (repeat' split) <;> first | exact RsF.c _ _ _ | exact RsF.g _ _ _
theorem rf_btR (H : Nat → Bool) (al : Bool) (a b : Int) : RsF (btR H al a b) := by
  unfold btR
  (repeat' split) <;> first | exact RsF.c _ _ _ | exact RsF.g _ _ _
theorem rf_elR (E : ES) (a b : Int) (mo : Nat) : RsF (elR E a b mo) := by
  unfold elR
  (repeat' split) <;> first | exact RsF.c _ _ _ | exact RsF.g _ _ _
theorem rf_nlR (E : ES) (a b : Int) : RsF (nlR E a b) := by
  unfold nlR
  (repeat' split) <;> first | exact RsF.c _ _ _ | exact RsF.g _ _ _
theorem rf_ecR (E : ES) (b : Int) (mo : Nat) : RsF (ecR E b mo) := by
  unfold ecR
  (repeat' split) <;> first | exact RsF.c _ _ _ | exact RsF.g _ _ _
theorem rf_refAtE (E : ES) (a : Int) : RsF (refAtE E a) := by
  unfold refAtE
  (repeat' split) <;> first | exact RsF.c _ _ _ | exact RsF.g _ _ _
theorem rf_encE (a b : Int) : RsF (encE a b) := by
  unfold encE
  (repeat' split) <;> first | exact RsF.c _ _ _ | exact RsF.g _ _ _
theorem rf_decE (a : Int) : RsF (decE a) := by
  unfold decE
  (repeat' split) <;> first | exact RsF.c _ _ _ | exact RsF.g _ _ _
theorem rf_headE (W : Nat → Nat) (a : Int) : RsF (headE W a) := by
  unfold headE
  (repeat' split) <;> first | exact RsF.c _ _ _ | exact RsF.g _ _ _
theorem rf_hsdE (E : ES) (a : Int) : RsF (hsdE E a) := by
  unfold hsdE
  (repeat' split) <;> first | exact RsF.c _ _ _ | exact RsF.g _ _ _
theorem rf_tallyE (E : ES) (n : Int) : RsF (tallyE E n) := by
  unfold tallyE
  (repeat' split) <;> first | exact RsF.c _ _ _ | exact RsF.g _ _ _
theorem rf_flnE (E : ES) (n : Int) : RsF (flnE E n) := by
  unfold flnE
  (repeat' split) <;> first | exact RsF.c _ _ _ | exact RsF.g _ _ _
theorem rf_clsE (E : ES) (n : Int) : RsF (clsE E n) := by
  unfold clsE
  (repeat' split) <;> first | exact RsF.c _ _ _ | exact RsF.g _ _ _
theorem rf_scR (W : Nat → Nat) (k n : Nat) (u : Option Int) : RsF (scR W k n u) := by
  unfold scR
  (repeat' split) <;> first | exact RsF.c _ _ _ | exact RsF.g _ _ _
theorem rf_ssR (W : Nat → Nat) (a b c : Int) : RsF (ssR W a b c) := by
  unfold ssR
  (repeat' split) <;> first | exact RsF.c _ _ _ | exact rf_scR _ _ _ _
theorem rf_scanE (W : Nat → Nat) (a : Int) : RsF (scanE W a) := by
  unfold scanE
  split
  · exact rf_scR _ _ _ _
  · exact RsF.c _ _ _
theorem rf_us (E : ES) : RsF (usA E) := RsF.of rfl rfl rfl rfl rfl
theorem rf_au (E : ES) : RsF (auA E) := RsF.of rfl rfl rfl rfl rfl
theorem rf_li (E : ES) : RsF (liA E) := RsF.of rfl rfl rfl rfl rfl
theorem rf_ce (E : ES) : RsF (ceA E) := RsF.of rfl rfl rfl rfl rfl
theorem rf_tx (s : List UInt8) : RsF (txA s) := RsF.of rfl rfl rfl rfl rfl
theorem rf_bi (E : ES) (n : Int) : RsF (biA E n) := by
  unfold biA
  split
  · exact RsF.c _ _ _
  · exact RsF.of rfl rfl rfl rfl rfl
theorem rf_bm (E : ES) (n : Int) : RsF (bmA E n) := by
  unfold bmA
  split
  · exact RsF.c _ _ _
  · exact rf_tx _
theorem stR_f (E : ES) (k : Nat) (a b c : Int) : RsF (stR E k a b c).1 := by
  unfold stR
  split
  all_goals dsimp only
  all_goals with_reducible first | exact RsF.c _ _ _ | exact RsF.g _ _ _ | exact rf_izR _ _ _ | exact rf_ldRefE _ _ _ | exact rf_owE _ _ | exact rf_clR _ _ _ | exact rf_lhR _ _ | exact rf_fhR _ _ _ _ | exact rf_deR _ | exact rf_szR _ | exact rf_efR _ _ _ | exact rf_fbR _ _ _ | exact rf_noR _ _ _ | exact rf_btR _ _ _ _ | exact rf_elR _ _ _ _ | exact rf_nlR _ _ _ | exact rf_ecR _ _ _ | exact rf_refAtE _ _ | exact rf_encE _ _ | exact rf_decE _ | exact rf_headE _ _ | exact rf_hsdE _ _ | exact rf_tallyE _ _ | exact rf_flnE _ _ | exact rf_clsE _ _ | exact rf_ssR _ _ _ _ | exact rf_scanE _ _ | exact rf_us _ | exact rf_au _ | exact rf_li _ | exact rf_ce _ | exact rf_tx _ | exact rf_bi _ _ | exact rf_bm _ _
end Go.Proofs.Qxb6500887aGreat
