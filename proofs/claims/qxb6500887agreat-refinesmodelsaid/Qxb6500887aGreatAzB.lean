/- The bare memory: Load, Store, Zero, IsZero, RefAt, SetRefAt, Version. -/
import Derived.Test.Qxb6500887aGreatAzA
namespace Go.Proofs.Qxb6500887aGreat
open Go.RowKit
set_option linter.unusedSimpArgs false
set_option linter.unusedVariables false

/-- The word of an address in the heap. -/
def wIx (x : Int) : Nat := (x - 65536).toNat
theorem wIx_of {x : Int} (h : InH x) : ((wIx x : Nat) : Int) = x - 65536 ∧ wIx x < 32768 := by
  unfold wIx
  obtain ⟨h1, h2⟩ := h
  omega
instance (x : Int) : Decidable (InH x) := by unfold InH; exact inferInstance
def AS.putW (S : AS) (i x : Nat) : AS := { S with W := fup S.W i x }
/-- A stretch of words cleared. -/
def zrW (W : Nat → Nat) (lo hi : Nat) : Nat → Nat := fun i => if lo ≤ i ∧ i < hi then 0 else W i
def AS.zero (S : AS) (lo hi : Nat) : AS := { S with W := zrW S.W lo hi }
theorem zrW_step (W : Nat → Nat) (lo j : Nat) : zrW W lo (lo + j + 1) = fup (zrW W lo (lo + j)) (lo + j) 0 := by
  funext q
  by_cases e : q = lo + j
  · subst e; rw [fup_self]; unfold zrW; rw [if_pos (by omega)]
  · rw [fup_ne _ _ e]; unfold zrW
    by_cases h : lo ≤ q ∧ q < lo + j
    · rw [if_pos h, if_pos (by omega)]
    · rw [if_neg h, if_neg (by omega)]
def rfOk (x : Int) : Prop := x = 0 ∨ wantO x = 0
instance (x : Int) : Decidable (rfOk x) := by unfold rfOk; exact inferInstance
theorem wantO_cases (x : Int) : wantO x = 0 ∨ wantO x = 1 ∨ wantO x = 2 := by
  unfold wantO
  split
  · split <;> simp
  · simp
set_option maxRecDepth 100000 in
theorem checkRefZ (x : Int) (w : World) : Calls Tryz.prog 148 #[.int .u64 x] w fun e w' => e = .returned (.tuple #[.int .u64 (if rfOk x then x else 0), .int .u8 (if rfOk x then 0 else 9)]) ∧ w' = w := by
  by_cases h0 : x = 0
  · subst h0
    rw [if_pos (.inl rfl), if_pos (.inl rfl)]
    go_enter Tryz.func148, Tryz.ntmps148
    go_wp2
    go_ret2
    exact ⟨rfl, rfl⟩
  · have d0 : (x == 0) = false := by simpa using h0
    by_cases h1 : wantO x = 0
    · rw [if_pos (.inr h1), if_pos (.inr h1)]
      have HG : Hid (Calls Tryz.prog 139 #[.int .u64 x] w fun e w' => e = .returned (.tuple #[.int .i64 ((x - 65536) / 2), .int .u8 0]) ∧ w' = w) := hid (by
        unfold wantO at h1
        by_cases hi : InH x
        · rw [if_pos hi] at h1
          by_cases he : x % 2 = 0
          · exact granule_ok x hi he w
          · rw [if_neg he] at h1; omega
        · rw [if_neg hi] at h1; omega)
      clear h1
      go_enter Tryz.func148, Tryz.ntmps148
      go_wp2_with fail
      refine HG.out.mono ?_
      rintro e w1 ⟨rfl, rfl⟩
      go_wp2
      go_ret2
      exact ⟨rfl, rfl⟩
    · have hn : ¬ rfOk x := fun h => by rcases h with h | h <;> contradiction
      rw [if_neg hn, if_neg hn]
      have HG := hid (granule_bad x h1 w)
      have dw : (wantO x == 0) = false := by simpa using h1
      generalize wantO x = c at *
      clear h1 hn
      go_enter Tryz.func148, Tryz.ntmps148
      go_wp2_with fail
      refine HG.out.mono ?_
      rintro e w1 ⟨rfl, rfl⟩
      go_wp2
      go_ret2
      exact ⟨rfl, rfl⟩
theorem wordZ (x : Int) (w : World) : Calls Tryz.prog 141 #[.int .u64 x] w fun e w' => e = .returned (.tuple #[.int .i64 (if InH x then x - 65536 else 0), .int .u8 (wantW x)]) ∧ w' = w := by
  by_cases h : InH x
  · rw [if_pos h, show wantW x = 0 by unfold wantW; rw [if_pos h]]
    exact wordIndex_in x h w
  · rw [if_neg h]
    exact word_bad x (by unfold wantW; rw [if_neg h]; decide) w
/-- wordRange: the code. -/
def wrCd (x n : Int) : Int := if InH x then lenOut (x - 65536) n else 1
theorem wrCd_ok {x n : Int} (h : wrCd x n = 0) : InH x ∧ 1 ≤ n ∧ n ≤ 98304 - x := by
  unfold wrCd at h
  by_cases hi : InH x
  · rw [if_pos hi] at h
    unfold lenOut at h
    split at h
    · omega
    · split at h
      · omega
      · exact ⟨hi, by omega, by omega⟩
  · rw [if_neg hi] at h; omega
set_option maxRecDepth 100000 in
theorem wordRangeZ (x n : Int) (w : World) : Calls Tryz.prog 167 #[.int .u64 x, .int .i64 n] w fun e w' => e = .returned (.tuple #[.int .i64 (if wrCd x n = 0 then x - 65536 else 0), .int .i64 (if wrCd x n = 0 then x - 65536 + n else 0), .int .u8 (wrCd x n)]) ∧ w' = w := by
  by_cases h : InH x
  · have HW := hid (wordIndex_in x h w)
    have hx := h
    have HL := hid (checkLength_walk (x - 65536) n (by have := hx.1; omega) (by have := hx.2; omega) w)
    have Hc : Hid (wrCd x n = lenOut (x - 65536) n) := hid (by unfold wrCd; rw [if_pos h])
    by_cases hl : lenOut (x - 65536) n = 0
    · have hc0 : wrCd x n = 0 := by rw [Hc.out]; exact hl
      have hb := wrCd_ok hc0
      rw [hc0, if_pos rfl, if_pos rfl]
      rw [hl] at HL
      obtain ⟨hx1, hx2⟩ := h
      obtain ⟨_, hn1, hn2⟩ := hb
      clear Hc hl hc0 hx
      go_enter Tryz.func167, Tryz.ntmps167
      go_wp2_with fail
      refine HW.out.mono ?_
      rintro e w1 ⟨rfl, rfl⟩
      go_wp2_with fail
      refine HL.out.mono ?_
      rintro e w2 ⟨rfl, rfl⟩
      go_wp2
      refine bodyPost_ret (v := .tuple #[.int .i64 (x - 65536), .int .i64 (x - 65536 + n), .int .u8 0]) (by simp [results, Tryz.results167, go_sem]) rfl ?_
      exact ⟨rfl, rfl⟩
    · have hc0 : ¬ wrCd x n = 0 := by rw [Hc.out]; exact hl
      rw [if_neg hc0, if_neg hc0, Hc.out]
      have dl : (lenOut (x - 65536) n == 0) = false := by simpa using hl
      generalize lenOut (x - 65536) n = c at *
      obtain ⟨hx1, hx2⟩ := h
      clear Hc hl hc0 hx
      go_enter Tryz.func167, Tryz.ntmps167
      go_wp2_with fail
      refine HW.out.mono ?_
      rintro e w1 ⟨rfl, rfl⟩
      go_wp2_with fail
      refine HL.out.mono ?_
      rintro e w2 ⟨rfl, rfl⟩
      go_wp2
      refine bodyPost_ret (v := .tuple #[.int .i64 0, .int .i64 0, .int .u8 c]) (by simp [results, Tryz.results167, go_sem]) rfl ?_
      exact ⟨rfl, rfl⟩
  · have HW := hid (wordIndex_out x h w)
    have hc : wrCd x n = 1 := by unfold wrCd; rw [if_neg h]
    rw [hc, if_neg (by decide), if_neg (by decide)]
    clear hc h
    go_enter Tryz.func167, Tryz.ntmps167
    go_wp2_with fail
    refine HW.out.mono ?_
    rintro e w1 ⟨rfl, rfl⟩
    go_wp2
    refine bodyPost_ret (v := .tuple #[.int .i64 0, .int .i64 0, .int .u8 1]) (by simp [results, Tryz.results167, go_sem]) rfl ?_
    exact ⟨rfl, rfl⟩
section
variable {l : AL} {S : AS} {w w' w0 : World}
set_option maxRecDepth 100000 in
theorem loadZ (h : AM l S w) (x : Int) : Calls Tryz.prog 23 #[.pointer (some ⟨l.a, 0, none⟩), .int .u64 x] w fun e w' => e = .returned (.tuple #[.int .u64 (if InH x then ((S.W (wIx x) : Nat) : Int) else 0), .int .u8 (wantW x)]) ∧ w' = w := by
  by_cases hi : InH x
  · have HW := hid (wordIndex_in x hi w)
    obtain ⟨e1, e2⟩ := wIx_of hi
    rw [if_pos hi, show wantW x = 0 by unfold wantW; rw [if_pos hi]]
    rw [← e1] at HW
    have c0 := h.cells.1
    have cw := h.word e2
    generalize wIx x = k at *
    clear h hi e1
    generalize S.W k = y at *
    go_enter Tryz.func23, Tryz.ntmps23
    go_wp2_with fail
    refine HW.out.mono ?_
    rintro e w1 ⟨rfl, hw1⟩
    have hw1' := hw1.symm
    clear hw1
    subst hw1'
    go_wp2
    go_ret2
    exact ⟨rfl, rfl⟩
  · have HW := hid (wordIndex_out x hi w)
    rw [if_neg hi, show wantW x = 1 by unfold wantW; rw [if_neg hi]]
    clear h hi
    go_enter Tryz.func23, Tryz.ntmps23
    go_wp2_with fail
    refine HW.out.mono ?_
    rintro e w1 ⟨rfl, rfl⟩
    go_wp2
    go_ret2
    exact ⟨rfl, rfl⟩
def storeA (S : AS) (x b : Int) : Int × AS := if InH x then (0, S.tch.putW (wIx x) b.toNat) else (1, S)
set_option maxRecDepth 100000 in
theorem storeZ (h : AM l S w) (x b : Int) (hb : U64 b) : Calls Tryz.prog 58 #[.pointer (some ⟨l.a, 0, none⟩), .int .u64 x, .int .u64 b] w fun e w' => e = .returned (.int .u8 (storeA S x b).1) ∧ Hid (AU l w (storeA S x b).2 w') := by
  unfold storeA
  by_cases hi : InH x
  · have HW := hid (wordIndex_in x hi w)
    obtain ⟨e1, e2⟩ := wIx_of hi
    rw [if_pos hi]
    rw [← e1] at HW
    generalize wIx x = k at *
    obtain ⟨bn, rfl⟩ : ∃ bn : Nat, b = (bn : Int) := ⟨b.toNat, by have := hb.1; omega⟩
    rw [Int.toNat_natCast]
    have hbl : bn < 18446744073709551616 := by have := hb.2; omega
    have HA := hid h
    clear h hi e1 hb
    go_enter Tryz.func58, Tryz.ntmps58
    go_wp2_with fail
    refine HW.out.mono ?_
    rintro e w1 ⟨rfl, hw1⟩
    have hw1' := hw1.symm
    clear hw1
    subst hw1'
    go_wp2_with fail
    refine (touchZ HA.out).mono ?_
    rintro e w2 ⟨rfl, HU⟩
    have c0 := HU.out.m.cells.1
    have cw := HU.out.m.word e2
    have fz := HU.out.m.ws.frozen k
    have HF := hid (HU.out.putW e2 hbl)
    clear HU HA
    generalize S.tch.W k = y at cw
    go_wp2
    go_ret
    exact ⟨rfl, HF⟩
  · have HW := hid (wordIndex_out x hi w)
    rw [if_neg hi]
    have HA := hid (AU.start h)
    clear h hi
    go_enter Tryz.func58, Tryz.ntmps58
    go_wp2_with fail
    refine HW.out.mono ?_
    rintro e w1 ⟨rfl, hw1⟩
    have hw1' := hw1.symm
    clear hw1
    subst hw1'
    go_wp2
    go_ret
    exact ⟨rfl, HA⟩
set_option maxRecDepth 100000 in
set_option maxHeartbeats 1000000 in
theorem zeroZ (h : AU l w0 S w) (lo hi : Nat) (h1 : lo < hi) (h2 : hi ≤ 32768) : Calls Tryz.prog 168 #[.pointer (some ⟨l.a, 0, none⟩), .int .i64 (lo : Int), .int .i64 (hi : Int)] w fun e w' => e = .returned (.tuple #[]) ∧ Hid (AU l w0 (S.zero lo hi) w') := by
  have HA := hid h
  have c0 := h.m.cells.1
  obtain ⟨n, rfl⟩ : ∃ n, hi = lo + n := ⟨hi - lo, by omega⟩
  have d1 : ((lo + n : Nat) : Int) - (lo : Int) = (n : Int) := by omega
  have e1 : lo + n - lo = n := by omega
  have hne : ¬ (32768 = lo) := by omega
  clear h
  go_enter Tryz.func168, Tryz.ntmps168
  go_upto_region 2 with fail
  go_loopw [17] (fun u wr => ∃ q : Nat, u = .int .i64 (q : Int) ∧ q ≤ n ∧ Hid (AU l w0 (S.zero lo (lo + q)) wr)) (fun u _ => n - (intOf u).toNat)
  case atStart => exact ⟨0, rfl, Nat.zero_le _, hid (by
    have : S.zero lo (lo + 0) = S := by
      unfold AS.zero
      rw [show zrW S.W lo (lo + 0) = S.W by funext i; unfold zrW; rw [if_neg (by omega)]]
    rw [this]; exact HA.out)⟩
  case round =>
  clear c0
  obtain ⟨q, rfl, hq, HK⟩ := hrel
  by_cases hql : q < n
  · as_aux_lemma =>
    have dq : decide ((q : Int) < (n : Int)) = true := decide_eq_true (by omega)
    have cw := HK.out.m.word (i := lo + q) (by omega)
    have fz := HK.out.m.ws.frozen (lo + q)
    have HF : Hid (AU l w0 (S.zero lo (lo + (q + 1))) (wr.setCell ⟨l.w, lo + q, none⟩ (.int .u64 0))) := hid (by
      have := HK.out.putW (i := lo + q) (x := 0) (by omega) (by decide)
      unfold AS.zero at this ⊢
      rw [show lo + (q + 1) = lo + q + 1 by omega, zrW_step]
      exact this)
    clear HK HA
    generalize (S.zero lo (lo + q)).W (lo + q) = y at cw
    go_wp2
    exact ⟨⟨q + 1, by go_num, by omega, HF⟩, by simp [intOf]; omega⟩
  · as_aux_lemma =>
    have dq : decide ((q : Int) < (n : Int)) = false := decide_eq_false (by omega)
    have HF : Hid (AU l w0 (S.zero lo (lo + n)) wr) := hid (by
      have e : q = n := by omega
      have := HK.out
      rw [e] at this
      exact this)
    clear HK HA
    go_wp2
    exact bodyPost_end (v := .tuple #[]) (by simp [results, Tryz.results168, go_sem]) rfl ⟨rfl, HF⟩
end
end Go.Proofs.Qxb6500887aGreat
