/- The tables keyed by address: counts, marks, log bits; Zero, RefAt, SetRefAt, Version, Reset. -/
import Derived.Test.Qxb6500887aGreatAzB
namespace Go.Proofs.Qxb6500887aGreat
open Go.RowKit
set_option linter.unusedSimpArgs false
set_option linter.unusedVariables false

/-- The granule of an object's address. -/
def gIx (x : Int) : Nat := ((x - 65536) / 2).toNat
theorem wantO_ok {x : Int} (h : wantO x = 0) : InH x ∧ x % 2 = 0 := by
  unfold wantO at h
  by_cases hi : InH x
  · rw [if_pos hi] at h
    by_cases he : x % 2 = 0
    · exact ⟨hi, he⟩
    · rw [if_neg he] at h; omega
  · rw [if_neg hi] at h; omega
theorem gIx_of {x : Int} (h : wantO x = 0) : ((gIx x : Nat) : Int) = (x - 65536) / 2 ∧ gIx x < 16384 ∧ 2 * gIx x = wIx x := by
  obtain ⟨⟨h1, h2⟩, h3⟩ := wantO_ok h
  unfold gIx wIx
  omega
theorem granule_g {x : Int} (h : wantO x = 0) (w : World) : Calls Tryz.prog 139 #[.int .u64 x] w fun e w' => e = .returned (.tuple #[.int .i64 ((gIx x : Nat) : Int), .int .u8 0]) ∧ w' = w := by
  obtain ⟨h1, h2⟩ := wantO_ok h
  rw [(gIx_of h).1]
  exact granule_ok x h1 h2 w
theorem word_g {x : Int} (h : InH x) (w : World) : Calls Tryz.prog 141 #[.int .u64 x] w fun e w' => e = .returned (.tuple #[.int .i64 ((wIx x : Nat) : Int), .int .u8 0]) ∧ w' = w := by
  rw [(wIx_of h).1]
  exact wordIndex_in x h w
theorem range_g {x n : Int} (h : wrCd x n = 0) (w : World) : Calls Tryz.prog 167 #[.int .u64 x, .int .i64 n] w fun e w' => e = .returned (.tuple #[.int .i64 ((wIx x : Nat) : Int), .int .i64 ((wIx x + n.toNat : Nat) : Int), .int .u8 0]) ∧ w' = w := by
  have h1 := wrCd_ok h
  have := wordRangeZ x n w
  rw [h, if_pos rfl, if_pos rfl, ← (wIx_of h1.1).1, show ((wIx x : Nat) : Int) + n = ((wIx x + n.toNat : Nat) : Int) by omega] at this
  exact this
theorem range_b {x n : Int} (h : wrCd x n ≠ 0) (w : World) : Calls Tryz.prog 167 #[.int .u64 x, .int .i64 n] w fun e w' => e = .returned (.tuple #[.int .i64 0, .int .i64 0, .int .u8 (wrCd x n)]) ∧ w' = w := by
  have := wordRangeZ x n w
  rw [if_neg h, if_neg h] at this
  exact this
def bitN (b : Bool) : Nat := if b then 1 else 0
theorem bitN_le (b : Bool) : bitN b ≤ 1 := by cases b <;> decide
section
variable {l : AL} {S : AS} {w w' w0 : World}
set_option maxRecDepth 100000 in
theorem versionZ (h : AM l S w) : Calls Tryz.prog 17 #[.pointer (some ⟨l.a, 0, none⟩)] w fun e w' => e = .returned (.int .u64 (S.v : Int)) ∧ w' = w := by
  have c5 := h.cells.2.2.2.2.2
  clear h
  go_enter Tryz.func17, Tryz.ntmps17
  go_wp2
  go_ret
  exact ⟨rfl, rfl⟩
def zeroA (S : AS) (x n : Int) : Int × AS := if wrCd x n = 0 then (0, S.tch.zero (wIx x) (wIx x + n.toNat)) else (wrCd x n, S)
set_option maxRecDepth 100000 in
theorem zeroAZ (h : AM l S w) (x n : Int) : Calls Tryz.prog 59 #[.pointer (some ⟨l.a, 0, none⟩), .int .u64 x, .int .i64 n] w fun e w' => e = .returned (.int .u8 (zeroA S x n).1) ∧ Hid (AU l w (zeroA S x n).2 w') := by
  unfold zeroA
  have HA := hid h
  by_cases hc : wrCd x n = 0
  · rw [if_pos hc]
    have HR := hid (range_g hc w)
    have hb := wrCd_ok hc
    have hw := wIx_of hb.1
    have hn : wIx x < wIx x + n.toNat := by omega
    have hm : wIx x + n.toNat ≤ 32768 := by omega
    generalize wIx x = lo at *
    generalize lo + n.toNat = hi at *
    clear hb hw hc h
    go_enter Tryz.func59, Tryz.ntmps59
    (go_wp2_with fail; refine (HR.out).mono ?_; rintro e_ w_ ⟨he_, hw_⟩; subst he_; have hs_ := hw_.symm; clear hw_; subst hs_)
    go_wp2_with fail
    refine (touchZ HA.out).mono ?_
    rintro e w2 ⟨rfl, HU⟩
    have HZ := hid (zeroZ HU.out lo hi hn hm)
    clear HU
    go_wp2_with fail
    refine HZ.out.mono ?_
    rintro e w3 ⟨rfl, HF⟩
    go_wp2
    go_ret
    exact ⟨rfl, HF⟩
  · rw [if_neg hc]
    have HR := hid (range_b hc w)
    have dc : (wrCd x n == 0) = false := by simpa using hc
    generalize wrCd x n = c at *
    clear hc h
    go_enter Tryz.func59, Tryz.ntmps59
    (go_wp2_with fail; refine (HR.out).mono ?_; rintro e_ w_ ⟨he_, hw_⟩; subst he_; have hs_ := hw_.symm; clear hw_; subst hs_)
    go_wp2
    go_ret
    exact ⟨rfl, hid (AU.start HA.out)⟩
set_option maxRecDepth 100000 in
theorem isZeroZ (h : AM l S w) (x n : Int) : Calls Tryz.prog 60 #[.pointer (some ⟨l.a, 0, none⟩), .int .u64 x, .int .i64 n] w fun e w' => ∃ z : Bool, e = .returned (.tuple #[.bool z, .int .u8 (wrCd x n)]) ∧ w' = w := by
  by_cases hc : wrCd x n = 0
  · rw [hc]
    have HR := hid (range_g hc w)
    have hb := wrCd_ok hc
    have hw := wIx_of hb.1
    obtain ⟨m, hm0⟩ : ∃ m, n.toNat = m := ⟨_, rfl⟩
    rw [hm0] at HR
    have hm : wIx x + m ≤ 32768 := by omega
    have hlo : ¬ (32768 = wIx x) := by omega
    have d1 : ((wIx x + m : Nat) : Int) - (wIx x : Int) = (m : Int) := by omega
    have e1 : wIx x + m - wIx x = m := by omega
    have hlo2 := hw.2
    generalize wIx x = lo at *
    have HA := hid h
    have c0 := h.cells.1
    clear hb hw hc h hm0
    go_enter Tryz.func60, Tryz.ntmps60
    (go_wp2_with fail; refine (HR.out).mono ?_; rintro e_ w_ ⟨he_, hw_⟩; subst he_; have hs_ := hw_.symm; clear hw_; subst hs_)
    go_upto_region 5 with fail
    go_loopw [31] (fun u wr => wr = w ∧ ∃ q : Nat, u = .int .i64 (q : Int) ∧ q ≤ m) (fun u _ => m - (intOf u).toNat)
    case atStart => exact ⟨rfl, 0, rfl, Nat.zero_le _⟩
    case round =>
    obtain ⟨hwr, q, rfl, hq⟩ := hrel
    have hwr' := hwr.symm
    clear hwr
    subst hwr'
    by_cases hql : q < m
    · have dq : decide ((q : Int) < (m : Int)) = true := decide_eq_true (by omega)
      have cw := HA.out.word (i := lo + q) (by omega)
      generalize S.W (lo + q) = y at cw
      by_cases hy : y = 0
      · as_aux_lemma =>
        have dy : ((y : Int) == 0) = true := by simp [hy]
        clear hy
        go_wp2
        exact ⟨⟨by trivial, q + 1, by go_num, by omega⟩, by simp [intOf]; omega⟩
      · as_aux_lemma =>
        have dy : ((y : Int) == 0) = false := by simp; omega
        go_wp2
        refine bodyPost_ret (results_tmp2 Tryz.results60 _ _ _) rfl ?_
        exact ⟨false, rfl, rfl⟩
    · as_aux_lemma =>
      have dq : decide ((q : Int) < (m : Int)) = false := decide_eq_false (by omega)
      go_wp2
      refine bodyPost_ret (results_tmp2 Tryz.results60 _ _ _) rfl ?_
      exact ⟨true, rfl, rfl⟩
  · have HR := hid (range_b hc w)
    have dc : (wrCd x n == 0) = false := by simpa using hc
    generalize wrCd x n = c at *
    clear hc h
    go_enter Tryz.func60, Tryz.ntmps60
    (go_wp2_with fail; refine (HR.out).mono ?_; rintro e_ w_ ⟨he_, hw_⟩; subst he_; have hs_ := hw_.symm; clear hw_; subst hs_)
    go_wp2
    refine bodyPost_ret (results_tmp2 Tryz.results60 _ _ _) rfl ?_
    exact ⟨false, rfl, rfl⟩
/-- The word at an address, as a reference. -/
def refAtA (S : AS) (x : Int) : Int × Int := if InH x then (if rfOk (S.W (wIx x)) then (((S.W (wIx x) : Nat) : Int), 0) else (0, 9)) else (0, 1)
set_option maxRecDepth 100000 in
theorem refAtZ (h : AM l S w) (x : Int) : Calls Tryz.prog 62 #[.pointer (some ⟨l.a, 0, none⟩), .int .u64 x] w fun e w' => e = .returned (.tuple #[.int .u64 (refAtA S x).1, .int .u8 (refAtA S x).2]) ∧ w' = w := by
  have HL := hid (loadZ h x)
  unfold refAtA
  by_cases hi : InH x
  · rw [if_pos hi]
    rw [if_pos hi, show wantW x = 0 by unfold wantW; rw [if_pos hi]] at HL
    have HC := hid (checkRefZ ((S.W (wIx x) : Nat) : Int) w)
    generalize S.W (wIx x) = y at *
    clear h hi
    by_cases hr : rfOk (y : Int)
    · rw [if_pos hr]
      rw [if_pos hr, if_pos hr] at HC
      clear hr
      go_enter Tryz.func62, Tryz.ntmps62
      (go_wp2_with fail; refine (HL.out).mono ?_; rintro e_ w_ ⟨he_, hw_⟩; subst he_; have hs_ := hw_.symm; clear hw_; subst hs_)
      (go_wp2_with fail; refine (HC.out).mono ?_; rintro e_ w_ ⟨he_, hw_⟩; subst he_; have hs_ := hw_.symm; clear hw_; subst hs_)
      go_wp2
      go_ret2
      exact ⟨rfl, rfl⟩
    · rw [if_neg hr]
      rw [if_neg hr, if_neg hr] at HC
      clear hr
      go_enter Tryz.func62, Tryz.ntmps62
      (go_wp2_with fail; refine (HL.out).mono ?_; rintro e_ w_ ⟨he_, hw_⟩; subst he_; have hs_ := hw_.symm; clear hw_; subst hs_)
      (go_wp2_with fail; refine (HC.out).mono ?_; rintro e_ w_ ⟨he_, hw_⟩; subst he_; have hs_ := hw_.symm; clear hw_; subst hs_)
      go_wp2
      go_ret2
      exact ⟨rfl, rfl⟩
  · rw [if_neg hi]
    rw [if_neg hi, show wantW x = 1 by unfold wantW; rw [if_neg hi]] at HL
    clear h hi
    go_enter Tryz.func62, Tryz.ntmps62
    (go_wp2_with fail; refine (HL.out).mono ?_; rintro e_ w_ ⟨he_, hw_⟩; subst he_; have hs_ := hw_.symm; clear hw_; subst hs_)
    go_wp2
    go_ret2
    exact ⟨rfl, rfl⟩
def setRefAtA (S : AS) (x r : Int) : Int × AS := if InH x then (if rfOk r then (0, S.tch.putW (wIx x) r.toNat) else (9, S)) else (1, S)
set_option maxRecDepth 100000 in
theorem setRefAtZ (h : AM l S w) (x b : Int) (hb : U64 b) : Calls Tryz.prog 63 #[.pointer (some ⟨l.a, 0, none⟩), .int .u64 x, .int .u64 b] w fun e w' => e = .returned (.int .u8 (setRefAtA S x b).1) ∧ Hid (AU l w (setRefAtA S x b).2 w') := by
  unfold setRefAtA
  have HA := hid h
  by_cases hi : InH x
  · have HW := hid (word_g hi w)
    obtain ⟨e1, e2⟩ := wIx_of hi
    rw [if_pos hi]
    generalize wIx x = k at *
    have HC := hid (checkRefZ b w)
    clear h hi e1
    by_cases hr : rfOk b
    · rw [if_pos hr]
      rw [if_pos hr, if_pos hr] at HC
      clear hr
      obtain ⟨bn, rfl⟩ : ∃ bn : Nat, b = (bn : Int) := ⟨b.toNat, by have := hb.1; omega⟩
      rw [Int.toNat_natCast]
      have hbl : bn < 18446744073709551616 := by have := hb.2; omega
      clear hb
      go_enter Tryz.func63, Tryz.ntmps63
      (go_wp2_with fail; refine (HW.out).mono ?_; rintro e_ w_ ⟨he_, hw_⟩; subst he_; have hs_ := hw_.symm; clear hw_; subst hs_)
      (go_wp2_with fail; refine (HC.out).mono ?_; rintro e_ w_ ⟨he_, hw_⟩; subst he_; have hs_ := hw_.symm; clear hw_; subst hs_)
      go_wp2_with fail
      refine (touchZ HA.out).mono ?_
      rintro e w2 ⟨rfl, HU⟩
      have c0 := HU.out.m.cells.1
      have cw := HU.out.m.word e2
      have fz := HU.out.m.ws.frozen k
      have HF := hid (HU.out.putW e2 hbl)
      clear HU HA
      generalize S.tch.W k = y at cw
      go_wp2
      go_ret
      exact ⟨rfl, HF⟩
    · rw [if_neg hr]
      rw [if_neg hr, if_neg hr] at HC
      clear hr
      go_enter Tryz.func63, Tryz.ntmps63
      (go_wp2_with fail; refine (HW.out).mono ?_; rintro e_ w_ ⟨he_, hw_⟩; subst he_; have hs_ := hw_.symm; clear hw_; subst hs_)
      (go_wp2_with fail; refine (HC.out).mono ?_; rintro e_ w_ ⟨he_, hw_⟩; subst he_; have hs_ := hw_.symm; clear hw_; subst hs_)
      go_wp2
      go_ret
      exact ⟨rfl, hid (AU.start HA.out)⟩
  · have HW := hid (wordIndex_out x hi w)
    rw [if_neg hi]
    clear h hi
    go_enter Tryz.func63, Tryz.ntmps63
    (go_wp2_with fail; refine (HW.out).mono ?_; rintro e_ w_ ⟨he_, hw_⟩; subst he_; have hs_ := hw_.symm; clear hw_; subst hs_)
    go_wp2
    go_ret
    exact ⟨rfl, hid (AU.start HA.out)⟩
end
end Go.Proofs.Qxb6500887aGreat
