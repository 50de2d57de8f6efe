/- lineRange, ScrubLines, ExtentOf, Occupy, Vacate, Tally. -/
import Derived.Test.Qxb6500887aGreatAzK
namespace Go.Proofs.Qxb6500887aGreat
open Go.RowKit
set_option linter.unusedSimpArgs false
set_option linter.unusedVariables false

/-- checkLength. -/
def lenG (k m lim : Int) : Int := if m < 1 then 4 else if lim - k < m then 7 else 0
set_option maxRecDepth 100000 in
theorem checkLengthG (k m lim : Int) (k0 : 0 ≤ k) (k1 : k ≤ lim) (k2 : lim ≤ 32768) (w : World) : Calls Tryz.prog 170 #[.int .i64 k, .int .i64 m, .int .i64 lim] w fun e w' => e = .returned (.int .u8 (lenG k m lim)) ∧ w' = w := by
  unfold lenG
  by_cases h1 : m < 1
  · rw [if_pos h1]
    have d1 : decide (m < 1) = true := decide_eq_true h1
    go_enter Tryz.func170, Tryz.ntmps170
    go_wp2
    go_ret
    exact ⟨rfl, rfl⟩
  · rw [if_neg h1]
    have d1 : decide (m < 1) = false := decide_eq_false h1
    by_cases h2 : lim - k < m
    · rw [if_pos h2]
      have d2 : decide (lim - k < m) = true := decide_eq_true h2
      go_enter Tryz.func170, Tryz.ntmps170
      go_wp2
      go_ret
      exact ⟨rfl, rfl⟩
    · rw [if_neg h2]
      have d2 : decide (lim - k < m) = false := decide_eq_false h2
      go_enter Tryz.func170, Tryz.ntmps170
      go_wp2
      go_ret
      exact ⟨rfl, rfl⟩
def lrC (a n : Int) : Int := if 0 ≤ a ∧ a < 2048 then lenG a n 2048 else 1
theorem lrC_ok {a n : Int} (h : lrC a n = 0) : 0 ≤ a ∧ a < 2048 ∧ 1 ≤ n ∧ a + n ≤ 2048 := by
  unfold lrC at h
  by_cases h1 : 0 ≤ a ∧ a < 2048
  · rw [if_pos h1] at h
    unfold lenG at h
    split at h
    · omega
    · split at h
      · omega
      · omega
  · rw [if_neg h1] at h; omega
set_option maxRecDepth 100000 in
theorem lineRangeZ (a n : Int) (w : World) : Calls Tryz.prog 260 #[.int .i64 a, .int .i64 n] w fun e w' => e = .returned (.int .u8 (lrC a n)) ∧ w' = w := by
  unfold lrC
  have HV := hid (validLine_walk a w)
  by_cases h1 : 0 ≤ a ∧ a < 2048
  · rw [if_pos h1]
    rw [decide_eq_true h1] at HV
    have HL := hid (checkLengthG a n 2048 h1.1 (by omega) (by omega) w)
    generalize lenG a n 2048 = c at *
    clear h1
    go_enter Tryz.func260, Tryz.ntmps260
    (go_wp2_with fail; refine (HV.out).mono ?_; rintro e_ w_ ⟨he_, hw_⟩; subst he_; have hs_ := hw_.symm; clear hw_; subst hs_)
    (go_wp2_with fail; refine (HL.out).mono ?_; rintro e_ w_ ⟨he_, hw_⟩; subst he_; have hs_ := hw_.symm; clear hw_; subst hs_)
    go_wp2
    go_ret
    exact ⟨rfl, rfl⟩
  · rw [if_neg h1]
    rw [decide_eq_false h1] at HV
    clear h1
    go_enter Tryz.func260, Tryz.ntmps260
    (go_wp2_with fail; refine (HV.out).mono ?_; rintro e_ w_ ⟨he_, hw_⟩; subst he_; have hs_ := hw_.symm; clear hw_; subst hs_)
    go_wp2
    go_ret
    exact ⟨rfl, rfl⟩
/-- All the tallies of a stretch of lines are zero. -/
def azP (S : AS) (lo hi : Nat) : Prop := ∀ i, lo ≤ i → i < hi → eN 4 16 S.T i = 0
open Classical in
noncomputable def scrubA (S : AS) (a n : Int) : Int × AS := if lrC a n = 0 then (if azP S a.toNat (a.toNat + n.toNat) then (0, { S.tch.zero (a.toNat * 16) ((a.toNat + n.toNat) * 16) with L := fillX 1 64 (a.toNat * 16) ((a.toNat + n.toNat) * 16) 0 S.L, C := fillX 2 32 (a.toNat * 8) ((a.toNat + n.toNat) * 8) 0 S.C, M := fillX 1 64 (a.toNat * 8) ((a.toNat + n.toNat) * 8) 0 S.M }) else (10, S)) else (lrC a n, S)
section
variable {l : AL} {S : AS} {w w' w0 : World} {p q : Nat} {cs : List Value} {o : Ob}
theorem nx_az {lo hi : Nat} {r : Int} (h : Nx (nzP 4 16 S.T) lo hi r) : (r < 0 ↔ azP S lo hi) ∧ -1 ≤ r := by
  rcases h with ⟨rfl, h⟩ | ⟨k, rfl, h1, h2, h3, _⟩
  · refine ⟨⟨fun _ i a1 a2 => ?_, fun _ => by omega⟩, by omega⟩
    have := h i a1 a2
    unfold nzP at this
    simpa using this
  · refine ⟨⟨fun a => by omega, fun a => ?_⟩, by omega⟩
    have := a k h1 h2
    unfold nzP at h3
    rw [this] at h3
    cases h3
set_option maxRecDepth 100000 in
set_option maxHeartbeats 2000000 in
theorem scrubZ (h : AM l S w) (a n : Int) : Calls Tryz.prog 235 #[.pointer (some ⟨l.a, 0, none⟩), .int .i64 a, .int .i64 n] w fun e w' => e = .returned (.int .u8 (scrubA S a n).1) ∧ Hid (AU l w (scrubA S a n).2 w') := by
  unfold scrubA
  have HA := hid h
  have HR := hid (lineRangeZ a n w)
  by_cases hc : lrC a n = 0
  · rw [if_pos hc]
    rw [hc] at HR
    obtain ⟨b1, b2, b3, b4⟩ := lrC_ok hc
    obtain ⟨an, rfl⟩ : ∃ an : Nat, a = (an : Int) := ⟨a.toNat, by omega⟩
    obtain ⟨nn, rfl⟩ : ∃ nn : Nat, n = (nn : Int) := ⟨n.toNat, by omega⟩
    simp only [Int.toNat_natCast]
    have c1 : 1 ≤ nn := by omega
    have c2 : an + nn ≤ 2048 := by omega
    clear b1 b2 b3 b4 hc
    have HZ : Hid (Calls Tryz.prog 261 #[.pointer (some ⟨l.tt, 0, none⟩), .int .i64 (an : Int), .int .i64 ((an : Int) + (nn : Int))] w fun e w' => ∃ r : Int, e = .returned (.tuple #[.bool (decide (r < 0)), .bool true]) ∧ Hid (Nx (nzP 4 16 S.T) an (an + nn) r ∧ Below w.heap.size w w')) := hid (by
      have := h.tt.allZero an (an + nn) (by omega) c2
      rw [show ((an + nn : Nat) : Int) = (an : Int) + (nn : Int) by omega] at this
      exact this)
    have k4 := h.cells.2.2.2.2.1
    clear h
    by_cases haz : azP S an (an + nn)
    · rw [if_pos haz]
      have f1 : (an : Int) * 16 = ((an * 16 : Nat) : Int) := by omega
      have f2 : ((an : Int) + (nn : Int)) * 16 = (((an + nn) * 16 : Nat) : Int) := by omega
      have f3 : (an : Int) * 16 / 2 = ((an * 8 : Nat) : Int) := by omega
      have f4 : ((an : Int) + (nn : Int)) * 16 / 2 = (((an + nn) * 8 : Nat) : Int) := by omega
      have HZ1 : Hid (∀ wz S1, AU l w S1 wz → Calls Tryz.prog 168 #[.pointer (some ⟨l.a, 0, none⟩), .int .i64 ((an : Int) * 16), .int .i64 (((an : Int) + (nn : Int)) * 16)] wz fun e w' => e = .returned (.tuple #[]) ∧ Hid (AU l w (S1.zero (an * 16) ((an + nn) * 16)) w')) := hid (fun wz S1 hz => by
        have := zeroZ hz (an * 16) ((an + nn) * 16) (by omega) (by omega)
        rw [← f1, ← f2] at this
        exact this)
      have HZ2 : Hid (∀ wz S1, AU l w S1 wz → Calls Tryz.prog 171 #[.pointer (some ⟨l.tl, 0, none⟩), .int .i64 ((an : Int) * 16), .int .i64 (((an : Int) + (nn : Int)) * 16), .int .u64 0] wz fun e w' => e = .returned (.bool true) ∧ Hid (AU l w { S1 with L := fillX 1 64 (an * 16) ((an + nn) * 16) 0 S1.L } w')) := hid (fun wz S1 hz => by
        have := hz.m.tl.fill (an * 16) ((an + nn) * 16) 0 (by omega) (by omega) (by decide)
        rw [← f1, ← f2] at this
        exact this.mono (by rintro e w1 ⟨rfl, k⟩; exact ⟨rfl, hid (hz.setL k.out.1 k.out.2)⟩))
      have HZ3 : Hid (∀ wz S1, AU l w S1 wz → Calls Tryz.prog 171 #[.pointer (some ⟨l.tc, 0, none⟩), .int .i64 ((an : Int) * 16 / 2), .int .i64 (((an : Int) + (nn : Int)) * 16 / 2), .int .u64 0] wz fun e w' => e = .returned (.bool true) ∧ Hid (AU l w { S1 with C := fillX 2 32 (an * 8) ((an + nn) * 8) 0 S1.C } w')) := hid (fun wz S1 hz => by
        have := hz.m.tc.fill (an * 8) ((an + nn) * 8) 0 (by omega) (by omega) (by decide)
        rw [← f3, ← f4] at this
        exact this.mono (by rintro e w1 ⟨rfl, k⟩; exact ⟨rfl, hid (hz.setC k.out.1 k.out.2)⟩))
      have HZ4 : Hid (∀ wz S1, AU l w S1 wz → Calls Tryz.prog 171 #[.pointer (some ⟨l.tm, 0, none⟩), .int .i64 ((an : Int) * 16 / 2), .int .i64 (((an : Int) + (nn : Int)) * 16 / 2), .int .u64 0] wz fun e w' => e = .returned (.bool true) ∧ Hid (AU l w { S1 with M := fillX 1 64 (an * 8) ((an + nn) * 8) 0 S1.M } w')) := hid (fun wz S1 hz => by
        have := hz.m.tm.fill (an * 8) ((an + nn) * 8) 0 (by omega) (by omega) (by decide)
        rw [← f3, ← f4] at this
        exact this.mono (by rintro e w1 ⟨rfl, k⟩; exact ⟨rfl, hid (hz.setM k.out.1 k.out.2)⟩))
      clear f1 f2 f3 f4
      have Haz := hid haz
      clear haz
      go_enter Tryz.func235, Tryz.ntmps235
      (go_wp2_with fail; refine (HR.out).mono ?_; rintro e_ w_ ⟨he_, hw_⟩; subst he_; have hs_ := hw_.symm; clear hw_; subst hs_)
      go_wp2_with fail
      refine HZ.out.mono ?_
      rintro e w2 ⟨r, rfl, HB⟩
      have dr : decide (r < 0) = true := decide_eq_true ((nx_az HB.out.1).1.2 Haz.out)
      have HA2 := hid ((AU.start HA.out).below HB.out.2)
      clear HB HA HZ k4 Haz
      (try simp only [dr])
      clear dr
      go_wp2_with fail
      refine HA2.out.touch.mono ?_
      rintro e w3 ⟨rfl, HA3⟩
      clear HA2
      go_wp2_with fail
      refine (HZ1.out _ _ HA3.out).mono ?_
      rintro e w4 ⟨rfl, HA4⟩
      clear HA3
      have k3 := HA4.out.m.cells.2.2.2.1
      go_wp2_with fail
      refine (HZ2.out _ _ HA4.out).mono ?_
      rintro e w5 ⟨rfl, HA5⟩
      clear HA4 k3
      have k1 := HA5.out.m.cells.2.1
      go_wp2_with fail
      refine (HZ3.out _ _ HA5.out).mono ?_
      rintro e w6 ⟨rfl, HA6⟩
      clear HA5 k1
      have k2 := HA6.out.m.cells.2.2.1
      go_wp2_with fail
      refine (HZ4.out _ _ HA6.out).mono ?_
      rintro e w7 ⟨rfl, HA7⟩
      clear HA6 k2
      go_wp2
      go_ret
      exact ⟨rfl, HA7⟩
    · rw [if_neg haz]
      have Haz := hid haz
      clear haz
      go_enter Tryz.func235, Tryz.ntmps235
      (go_wp2_with fail; refine (HR.out).mono ?_; rintro e_ w_ ⟨he_, hw_⟩; subst he_; have hs_ := hw_.symm; clear hw_; subst hs_)
      go_wp2_with fail
      refine HZ.out.mono ?_
      rintro e w2 ⟨r, rfl, HB⟩
      have dr : decide (r < 0) = false := decide_eq_false (fun hr => Haz.out ((nx_az HB.out.1).1.1 hr))
      have HA2 := hid ((AU.start HA.out).below HB.out.2)
      clear HB HA HZ k4 Haz
      (try simp only [dr])
      clear dr
      go_wp2
      go_ret
      exact ⟨rfl, HA2⟩
  · rw [if_neg hc]
    have dc : (lrC a n == 0) = false := by simpa using hc
    have dc2 : (lrC a n != 0) = true := by simp [bne, dc]
    generalize lrC a n = c at *
    clear h hc
    go_enter Tryz.func235, Tryz.ntmps235
    (go_wp2_with fail; refine (HR.out).mono ?_; rintro e_ w_ ⟨he_, hw_⟩; subst he_; have hs_ := hw_.symm; clear hw_; subst hs_)
    go_wp2
    go_ret
    exact ⟨rfl, hid (AU.start HA.out)⟩
set_option maxRecDepth 100000 in
theorem tallyZ (h : AM l S w) (a : Int) : Calls Tryz.prog 131 #[.pointer (some ⟨l.a, 0, none⟩), .int .i64 a] w fun e w' => e = .returned (.tuple #[.int .i64 (if 0 ≤ a ∧ a < 2048 then ((eN 4 16 S.T a.toNat : Nat) : Int) else 0), .int .u8 (if 0 ≤ a ∧ a < 2048 then 0 else 1)]) ∧ Drew w w' := by
  have HV := hid (validLine_walk a w)
  by_cases h1 : 0 ≤ a ∧ a < 2048
  · rw [if_pos h1, if_pos h1]
    rw [decide_eq_true h1] at HV
    obtain ⟨an, rfl⟩ : ∃ an : Nat, a = (an : Int) := ⟨a.toNat, by omega⟩
    rw [Int.toNat_natCast]
    have HT := hid (h.tt.get an (by omega))
    have k4 := h.cells.2.2.2.2.1
    have hlt := eN_lt 4 16 S.T an
    generalize eN 4 16 S.T an = y at *
    have hy : y < 16 := hlt
    clear h h1 hlt
    go_enter Tryz.func131, Tryz.ntmps131
    (go_wp2_with fail; refine (HV.out).mono ?_; rintro e_ w_ ⟨he_, hw_⟩; subst he_; have hs_ := hw_.symm; clear hw_; subst hs_)
    go_wp2_with fail
    refine HT.out.mono ?_
    rintro e w2 ⟨rfl, hd⟩
    go_wp2
    go_ret2
    exact ⟨rfl, hd⟩
  · rw [if_neg h1, if_neg h1]
    rw [decide_eq_false h1] at HV
    clear h h1
    go_enter Tryz.func131, Tryz.ntmps131
    (go_wp2_with fail; refine (HV.out).mono ?_; rintro e_ w_ ⟨he_, hw_⟩; subst he_; have hs_ := hw_.symm; clear hw_; subst hs_)
    go_wp2
    go_ret2
    exact ⟨rfl, Drew.refl _⟩
end
end Go.Proofs.Qxb6500887aGreat
