/- FreeLines, BlockClass, holes, runs of free blocks (written by tools/mk_azw.py). -/
import Derived.Test.Qxb6500887aGreatAzV
namespace Go.Proofs.Qxb6500887aGreat
open Go.RowKit
set_option linter.unusedSimpArgs false
set_option linter.unusedVariables false

/-- Block numbers. -/
def BkI (x : Int) : Prop := 0 ≤ x ∧ x < 64
instance (x : Int) : Decidable (BkI x) := by unfold BkI; exact inferInstance
/-- The lines of a block that are in use. -/
def usN (S : AS) (b : Nat) : Nat := cnt (fun i => inR (32 * b) (32 * b + 32) i && !(eN 4 16 S.T i == 0)) 2048
/-- FreeLines. -/
def flV (S : AS) (x : Int) : Int := if BkI x then 32 - ((usN S x.toNat : Nat) : Int) else 0
def blC (x : Int) : Int := if BkI x then 0 else 1
section
variable {l : AL} {S : AS} {w w' w0 : World} {p q : Nat} {cs : List Value} {o : Ob}
theorem firstLn_g {b : Nat} (hb : b < 64) (w : World) : Calls Tryz.prog 159 #[.int .i64 (b : Int)] w fun e w' => e = .returned (.tuple #[.int .i64 ((32 * b : Nat) : Int), .int .u8 0]) ∧ w' = w := by
  have := firstLine_in (b : Int) (by omega) (by omega) w
  rw [show (b : Int) * 32 = ((32 * b : Nat) : Int) by omega] at this
  exact this
theorem firstLn_b {x : Int} (hx : ¬ BkI x) (w : World) : Calls Tryz.prog 159 #[.int .i64 x] w fun e w' => e = .returned (.tuple #[.int .i64 0, .int .u8 1]) ∧ w' = w := firstLine_out x hx w
theorem BkI.nat {x : Int} (h : BkI x) : ∃ b : Nat, x = (b : Int) ∧ b < 64 := ⟨x.toNat, by have := h.1; omega, by have := h.1; have := h.2; omega⟩
set_option maxRecDepth 100000 in
theorem freeLinesZ (h : AM l S w) (x : Int) : Calls Tryz.prog 50 #[.pointer (some ⟨l.a, 0, none⟩), .int .i64 x] w fun e w' => e = .returned (.tuple #[.int .i64 (flV S x), .int .u8 (blC x)]) ∧ Hid (Below w.heap.size w w' ∧ 0 ≤ flV S x ∧ flV S x ≤ 32) := by
  unfold flV blC
  by_cases hx : BkI x
  · rw [if_pos hx, if_pos hx]
    obtain ⟨b, rfl, hb⟩ := hx.nat
    clear hx
    rw [Int.toNat_natCast]
    have HF := hid (firstLn_g hb w)
    have HZ : Hid (Calls Tryz.prog 160 #[.pointer (some ⟨l.tt, 0, none⟩), .int .i64 ((32 * b : Nat) : Int), .int .i64 (((32 * b : Nat) : Int) + 32)] w fun e w' => e = .returned (.tuple #[.int .i64 (32 - ((usN S b : Nat) : Int)), .bool true]) ∧ Hid (Below w.heap.size w w' ∧ 0 ≤ (32 : Int) - ((usN S b : Nat) : Int) ∧ (32 : Int) - ((usN S b : Nat) : Int) ≤ 32)) := hid (by
      have := countZero_walk h.tt.t4 (32 * b) (32 * b + 32) (by omega) (by omega)
      rw [show ((32 * b + 32 : Nat) : Int) = ((32 * b : Nat) : Int) + 32 by omega] at this
      refine this.mono ?_
      rintro e w1 ⟨⟨c, rfl, HK⟩, hbe⟩
      have hc : c = usN S b := HK.out.1
      have hc2 := HK.out.2
      subst hc
      exact ⟨by rw [show ((32 * b : Nat) : Int) + 32 - ((32 * b : Nat) : Int) - ((usN S b : Nat) : Int) = 32 - ((usN S b : Nat) : Int) by omega], hid ⟨hbe, by omega, by omega⟩⟩)
    have k4 := h.cells.2.2.2.2.1
    have hm : 32 * b + 32 ≤ 2048 := by omega
    generalize 32 * b = m at *
    generalize (32 : Int) - ((usN S b : Nat) : Int) = z at *
    clear h
    go_enter Tryz.func50, Tryz.ntmps50
    (go_wp2_with fail; refine (HF.out).mono ?_; rintro e_ w_ ⟨he_, hw_⟩; subst he_; have hs_ := hw_.symm; clear hw_; subst hs_)
    go_wp2_with fail
    refine HZ.out.mono ?_
    rintro e w2 ⟨rfl, HB⟩
    go_wp2
    go_ret2
    exact ⟨rfl, HB⟩
  · rw [if_neg hx, if_neg hx]
    have HF := hid (firstLn_b hx w)
    clear h hx
    go_enter Tryz.func50, Tryz.ntmps50
    (go_wp2_with fail; refine (HF.out).mono ?_; rintro e_ w_ ⟨he_, hw_⟩; subst he_; have hs_ := hw_.symm; clear hw_; subst hs_)
    go_wp2
    go_ret2
    exact ⟨rfl, hid ⟨Below.refl _ _, by omega, by omega⟩⟩
/-- classOf. -/
def clV (n : Int) : Int := if n = 32 then 0 else if n = 0 then 2 else 1
set_option maxRecDepth 100000 in
theorem classOfZ (n : Int) (w : World) : Calls Tryz.prog 161 #[.int .i64 n] w fun e w' => e = .returned (.int .u8 (clV n)) ∧ w' = w := by
  unfold clV
  by_cases h1 : n = 32
  · rw [if_pos h1]
    have d1 : (n == 32) = true := by simp [h1]
    clear h1
    go_enter Tryz.func161, Tryz.ntmps161
    go_wp2
    go_ret
    exact ⟨rfl, rfl⟩
  · rw [if_neg h1]
    have d1 : (n == 32) = false := by simpa using h1
    by_cases h2 : n = 0
    · rw [if_pos h2]
      have d2 : (n == 0) = true := by simp [h2]
      clear h1 h2
      go_enter Tryz.func161, Tryz.ntmps161
      go_wp2
      go_ret
      exact ⟨rfl, rfl⟩
    · rw [if_neg h2]
      have d2 : (n == 0) = false := by simpa using h2
      clear h1 h2
      go_enter Tryz.func161, Tryz.ntmps161
      go_wp2
      go_ret
      exact ⟨rfl, rfl⟩
theorem clV_cases (n : Int) : clV n = 0 ∨ clV n = 1 ∨ clV n = 2 := by
  unfold clV
  split
  · simp
  · split <;> simp
set_option maxRecDepth 100000 in
theorem blockClassZ (h : AM l S w) (x : Int) : Calls Tryz.prog 51 #[.pointer (some ⟨l.a, 0, none⟩), .int .i64 x] w fun e w' => e = .returned (.tuple #[.int .u8 (if BkI x then clV (flV S x) else 2), .int .u8 (blC x)]) ∧ Hid (Below w.heap.size w w') := by
  have HF := hid (freeLinesZ h x)
  have HC := hid (fun wz => classOfZ (flV S x) wz)
  unfold blC at HF ⊢
  generalize flV S x = n at *
  generalize clV n = k at *
  clear h
  by_cases hx : BkI x
  all_goals
    (first | rw [if_pos hx] at HF | rw [if_neg hx] at HF)
    (first | rw [if_pos hx, if_pos hx] | rw [if_neg hx, if_neg hx])
    clear hx
    go_enter Tryz.func51, Tryz.ntmps51
    go_wp2_with fail
    refine HF.out.mono ?_
    rintro e w2 ⟨rfl, HB⟩
    go_wp2_with (refine (HC.out w2).mono ?_; rintro e_ w_ ⟨he_, hw_⟩; subst he_; have hs_ := hw_.symm; clear hw_; subst hs_)
    go_ret2
    exact ⟨rfl, hid HB.out.1⟩
/-- A hole that a search found, told by row. -/
def HoP (R : Int → Int → Prop) (m : Nat) (r n : Int) : Prop := ∃ s k : Int, R s k ∧ ((s = -1 ∧ r = 32 ∧ n = 0) ∨ (0 ≤ s ∧ r = s - (m : Int) ∧ n = k))
/-- NextHole. -/
def NhP (S : AS) (x y r n c : Int) : Prop := (¬ (BkI x ∧ 0 ≤ y ∧ y ≤ 32) ∧ r = 0 ∧ n = 0 ∧ c = 1) ∨ ((BkI x ∧ 0 ≤ y ∧ y ≤ 32) ∧ c = 0 ∧ HoP (Zr (zrP 4 16 S.T) (32 * x.toNat + y.toNat) (32 * x.toNat + 32)) (32 * x.toNat) r n)
/-- FitHole. -/
def FhP (S : AS) (x y z r n c : Int) : Prop := (¬ (BkI x ∧ 0 ≤ y ∧ y ≤ 32) ∧ r = 0 ∧ n = 0 ∧ c = 1) ∨ ((BkI x ∧ 0 ≤ y ∧ y ≤ 32) ∧ ¬ (1 ≤ z ∧ z ≤ 32) ∧ r = 0 ∧ n = 0 ∧ c = 4) ∨ ((BkI x ∧ 0 ≤ y ∧ y ≤ 32) ∧ (1 ≤ z ∧ z ≤ 32) ∧ c = 0 ∧ HoP (FitP (zrP 4 16 S.T) (32 * x.toNat + y.toNat) (32 * x.toNat + 32) z.toNat) (32 * x.toNat) r n)
/-- LargestHole. -/
def LhP (S : AS) (x r n c : Int) : Prop := (¬ BkI x ∧ r = 0 ∧ n = 0 ∧ c = 1) ∨ (BkI x ∧ c = 0 ∧ HoP (LongP (zrP 4 16 S.T) (32 * x.toNat) (32 * x.toNat + 32)) (32 * x.toNat) r n)
theorem FitP.bounds {P : Nat → Bool} {lo hi nd : Nat} {s l : Int} (h : FitP P lo hi nd s l) : (s = -1 ∧ l = 0) ∨ ∃ k m : Nat, s = (k : Int) ∧ l = (m : Int) ∧ 1 ≤ m ∧ lo ≤ k ∧ k + m ≤ hi := by
  rcases h with ⟨h1, h2, _⟩ | ⟨k, m, h1, h2, h3, _⟩
  · exact .inl ⟨h1, h2⟩
  · exact .inr ⟨k, m, h1, h2, h3.m1, h3.hlo, h3.hhi⟩
theorem LongP.bounds {P : Nat → Bool} {lo hi : Nat} {s l : Int} (h : LongP P lo hi s l) : (s = -1 ∧ l = 0) ∨ ∃ k m : Nat, s = (k : Int) ∧ l = (m : Int) ∧ 1 ≤ m ∧ lo ≤ k ∧ k + m ≤ hi := by
  rcases h with ⟨h1, h2, _⟩ | ⟨k, m, h1, h2, h3, _⟩
  · exact .inl ⟨h1, h2⟩
  · exact .inr ⟨k, m, h1, h2, h3.m1, h3.hlo, h3.hhi⟩
set_option maxRecDepth 100000 in
set_option maxHeartbeats 2000000 in
theorem nextHoleZ (h : AM l S w) (x y : Int) : Calls Tryz.prog 157 #[.pointer (some ⟨l.a, 0, none⟩), .int .i64 x, .int .i64 y] w fun e w' => ∃ r n c : Int, e = .returned (.tuple #[.int .i64 r, .int .i64 n, .int .u8 c]) ∧ Hid (NhP S x y r n c ∧ Below w.heap.size w w') := by
  by_cases hx : BkI x
  · by_cases hy0 : y < 0
    · as_aux_lemma =>
      have HG : Hid (NhP S x y 0 0 1) := hid (.inl ⟨fun q => by omega, rfl, rfl, rfl⟩)
      obtain ⟨b, rfl, hb⟩ := hx.nat
      have HF := hid (firstLn_g hb w)
      have d1 : decide (y < 0) = true := decide_eq_true hy0
      generalize 32 * b = m at *
      clear h hx hy0
      go_enter Tryz.func157, Tryz.ntmps157
      (go_wp2_with fail; refine (HF.out).mono ?_; rintro e_ w_ ⟨he_, hw_⟩; subst he_; have hs_ := hw_.symm; clear hw_; subst hs_)
      go_wp2
      refine bodyPost_ret (v := .tuple #[.int .i64 0, .int .i64 0, .int .u8 1]) (by simp [results, Tryz.results157, go_sem]) rfl ?_
      exact ⟨_, _, _, rfl, hid ⟨HG.out, Below.refl _ _⟩⟩
    by_cases hy1 : 32 < y
    · as_aux_lemma =>
      have HG : Hid (NhP S x y 0 0 1) := hid (.inl ⟨fun q => by omega, rfl, rfl, rfl⟩)
      obtain ⟨b, rfl, hb⟩ := hx.nat
      have HF := hid (firstLn_g hb w)
      have d1 : decide (y < 0) = false := decide_eq_false hy0
      have d2 : decide (32 < y) = true := decide_eq_true hy1
      generalize 32 * b = m at *
      clear h hx hy0 hy1
      go_enter Tryz.func157, Tryz.ntmps157
      (go_wp2_with fail; refine (HF.out).mono ?_; rintro e_ w_ ⟨he_, hw_⟩; subst he_; have hs_ := hw_.symm; clear hw_; subst hs_)
      go_wp2
      refine bodyPost_ret (v := .tuple #[.int .i64 0, .int .i64 0, .int .u8 1]) (by simp [results, Tryz.results157, go_sem]) rfl ?_
      exact ⟨_, _, _, rfl, hid ⟨HG.out, Below.refl _ _⟩⟩
    · as_aux_lemma =>
      have HF2 : Hid (∀ r n s k : Int, Zr (zrP 4 16 S.T) (32 * x.toNat + y.toNat) (32 * x.toNat + 32) s k → ((s = -1 ∧ r = 32 ∧ n = 0) ∨ (0 ≤ s ∧ r = s - ((32 * x.toNat : Nat) : Int) ∧ n = k)) → NhP S x y r n 0) := hid (fun r n s k h1 h2 => .inr ⟨⟨hx, by omega, by omega⟩, rfl, s, k, h1, h2⟩)
      obtain ⟨b, rfl, hb⟩ := hx.nat
      obtain ⟨j, rfl⟩ : ∃ j : Nat, y = (j : Int) := ⟨y.toNat, by omega⟩
      simp only [Int.toNat_natCast] at HF2
      have hj : j ≤ 32 := by omega
      have HF := hid (firstLn_g hb w)
      have hm : 32 * b + 32 ≤ 2048 := by omega
      have d1 : decide ((j : Int) < 0) = false := decide_eq_false hy0
      have d2 : decide ((32 : Int) < (j : Int)) = false := decide_eq_false hy1
      have d2' : decide (32 < j) = false := decide_eq_false (by omega)
      generalize 32 * b = m at *
      have HZ : Hid (Calls Tryz.prog 165 #[.pointer (some ⟨l.tt, 0, none⟩), .int .i64 ((m : Int) + (j : Int)), .int .i64 ((m : Int) + 32)] w fun e w' => ∃ s k : Int, e = .returned (.tuple #[.int .i64 s, .int .i64 k, .bool true]) ∧ Hid (Zr (zrP 4 16 S.T) (m + j) (m + 32) s k ∧ Below w.heap.size w w')) := hid (by
        have := h.tt.zeroRun (m + j) (m + 32) (by omega) (by omega)
        rw [show ((m + 32 : Nat) : Int) = (m : Int) + 32 by omega, show ((m + j : Nat) : Int) = (m : Int) + (j : Int) by omega] at this
        exact this)
      have k4 := h.cells.2.2.2.2.1
      generalize zrP 4 16 S.T = P at *
      clear h hx hy0 hy1 hb
      go_enter Tryz.func157, Tryz.ntmps157
      (go_wp2_with fail; refine (HF.out).mono ?_; rintro e_ w_ ⟨he_, hw_⟩; subst he_; have hs_ := hw_.symm; clear hw_; subst hs_)
      go_wp2_with fail
      refine HZ.out.mono ?_
      rintro e w2 ⟨s, k, rfl, HB⟩
      have HBe := hid HB.out.2
      rcases HB.out.1.bounds with ⟨rfl, rfl⟩ | ⟨a, c, rfl, rfl, hc1, ha1, ha2⟩
      · as_aux_lemma =>
        have HG := hid (HF2.out _ _ _ _ HB.out.1 (.inl ⟨rfl, rfl, rfl⟩))
        clear HB HF2
        go_wp2
        refine bodyPost_ret (v := .tuple #[.int .i64 32, .int .i64 0, .int .u8 0]) (by simp [results, Tryz.results157, go_sem]) rfl ?_
        exact ⟨_, _, _, rfl, hid ⟨HG.out, HBe.out⟩⟩
      · as_aux_lemma =>
        have HG := hid (HF2.out ((a : Int) - (m : Int)) (c : Int) _ _ HB.out.1 (.inr ⟨by omega, rfl, rfl⟩))
        have d9 : decide ((a : Int) < 0) = false := decide_eq_false (by omega)
        clear HB HF2
        go_wp2
        refine bodyPost_ret (v := .tuple #[.int .i64 ((a : Int) - (m : Int)), .int .i64 (c : Int), .int .u8 0]) (by simp [results, Tryz.results157, go_sem]) rfl ?_
        exact ⟨_, _, _, rfl, hid ⟨HG.out, HBe.out⟩⟩
  · as_aux_lemma =>
    have HG : Hid (NhP S x y 0 0 1) := hid (.inl ⟨fun q => hx q.1, rfl, rfl, rfl⟩)
    have HF := hid (firstLn_b hx w)
    clear h hx
    go_enter Tryz.func157, Tryz.ntmps157
    (go_wp2_with fail; refine (HF.out).mono ?_; rintro e_ w_ ⟨he_, hw_⟩; subst he_; have hs_ := hw_.symm; clear hw_; subst hs_)
    go_wp2
    refine bodyPost_ret (v := .tuple #[.int .i64 0, .int .i64 0, .int .u8 1]) (by simp [results, Tryz.results157, go_sem]) rfl ?_
    exact ⟨_, _, _, rfl, hid ⟨HG.out, Below.refl _ _⟩⟩
set_option maxRecDepth 100000 in
set_option maxHeartbeats 2000000 in
theorem largestHoleZ (h : AM l S w) (x : Int) : Calls Tryz.prog 52 #[.pointer (some ⟨l.a, 0, none⟩), .int .i64 x] w fun e w' => ∃ r n c : Int, e = .returned (.tuple #[.int .i64 r, .int .i64 n, .int .u8 c]) ∧ Hid (LhP S x r n c ∧ Below w.heap.size w w') := by
  by_cases hx : BkI x
  · as_aux_lemma =>
      have HF2 : Hid (∀ r n s k : Int, LongP (zrP 4 16 S.T) (32 * x.toNat) (32 * x.toNat + 32) s k → ((s = -1 ∧ r = 32 ∧ n = 0) ∨ (0 ≤ s ∧ r = s - ((32 * x.toNat : Nat) : Int) ∧ n = k)) → LhP S x r n 0) := hid (fun r n s k h1 h2 => .inr ⟨hx, rfl, s, k, h1, h2⟩)
      obtain ⟨b, rfl, hb⟩ := hx.nat
      simp only [Int.toNat_natCast] at HF2
      have HF := hid (firstLn_g hb w)
      have hm : 32 * b + 32 ≤ 2048 := by omega
      generalize 32 * b = m at *
      have HZ : Hid (Calls Tryz.prog 162 #[.pointer (some ⟨l.tt, 0, none⟩), .int .i64 (m : Int), .int .i64 ((m : Int) + 32)] w fun e w' => ∃ s k : Int, e = .returned (.tuple #[.int .i64 s, .int .i64 k, .bool true]) ∧ Hid (LongP (zrP 4 16 S.T) m (m + 32) s k ∧ Below w.heap.size w w')) := hid (by
        have := h.tt.longestZeroRun m (m + 32) (by omega) (by omega)
        rw [show ((m + 32 : Nat) : Int) = (m : Int) + 32 by omega] at this
        exact this)
      have k4 := h.cells.2.2.2.2.1
      generalize zrP 4 16 S.T = P at *
      clear h hx hb
      go_enter Tryz.func52, Tryz.ntmps52
      (go_wp2_with fail; refine (HF.out).mono ?_; rintro e_ w_ ⟨he_, hw_⟩; subst he_; have hs_ := hw_.symm; clear hw_; subst hs_)
      go_wp2_with fail
      refine HZ.out.mono ?_
      rintro e w2 ⟨s, k, rfl, HB⟩
      have HBe := hid HB.out.2
      rcases HB.out.1.bounds with ⟨rfl, rfl⟩ | ⟨a, c, rfl, rfl, hc1, ha1, ha2⟩
      · as_aux_lemma =>
        have HG := hid (HF2.out _ _ _ _ HB.out.1 (.inl ⟨rfl, rfl, rfl⟩))
        clear HB HF2
        go_wp2
        refine bodyPost_ret (v := .tuple #[.int .i64 32, .int .i64 0, .int .u8 0]) (by simp [results, Tryz.results52, go_sem]) rfl ?_
        exact ⟨_, _, _, rfl, hid ⟨HG.out, HBe.out⟩⟩
      · as_aux_lemma =>
        have HG := hid (HF2.out ((a : Int) - (m : Int)) (c : Int) _ _ HB.out.1 (.inr ⟨by omega, rfl, rfl⟩))
        have d9 : decide ((a : Int) < 0) = false := decide_eq_false (by omega)
        clear HB HF2
        go_wp2
        refine bodyPost_ret (v := .tuple #[.int .i64 ((a : Int) - (m : Int)), .int .i64 (c : Int), .int .u8 0]) (by simp [results, Tryz.results52, go_sem]) rfl ?_
        exact ⟨_, _, _, rfl, hid ⟨HG.out, HBe.out⟩⟩
  · as_aux_lemma =>
    have HG : Hid (LhP S x 0 0 1) := hid (.inl ⟨hx, rfl, rfl, rfl⟩)
    have HF := hid (firstLn_b hx w)
    clear h hx
    go_enter Tryz.func52, Tryz.ntmps52
    (go_wp2_with fail; refine (HF.out).mono ?_; rintro e_ w_ ⟨he_, hw_⟩; subst he_; have hs_ := hw_.symm; clear hw_; subst hs_)
    go_wp2
    refine bodyPost_ret (v := .tuple #[.int .i64 0, .int .i64 0, .int .u8 1]) (by simp [results, Tryz.results52, go_sem]) rfl ?_
    exact ⟨_, _, _, rfl, hid ⟨HG.out, Below.refl _ _⟩⟩
set_option maxRecDepth 100000 in
set_option maxHeartbeats 2000000 in
theorem fitHoleZ (h : AM l S w) (x y z : Int) : Calls Tryz.prog 53 #[.pointer (some ⟨l.a, 0, none⟩), .int .i64 x, .int .i64 y, .int .i64 z] w fun e w' => ∃ r n c : Int, e = .returned (.tuple #[.int .i64 r, .int .i64 n, .int .u8 c]) ∧ Hid (FhP S x y z r n c ∧ Below w.heap.size w w') := by
  by_cases hx : BkI x
  · by_cases hy0 : y < 0
    · as_aux_lemma =>
      have HG : Hid (FhP S x y z 0 0 1) := hid (.inl ⟨fun q => by omega, rfl, rfl, rfl⟩)
      obtain ⟨b, rfl, hb⟩ := hx.nat
      have HF := hid (firstLn_g hb w)
      have d1 : decide (y < 0) = true := decide_eq_true hy0
      generalize 32 * b = m at *
      clear h hx hy0
      go_enter Tryz.func53, Tryz.ntmps53
      (go_wp2_with fail; refine (HF.out).mono ?_; rintro e_ w_ ⟨he_, hw_⟩; subst he_; have hs_ := hw_.symm; clear hw_; subst hs_)
      go_wp2
      refine bodyPost_ret (v := .tuple #[.int .i64 0, .int .i64 0, .int .u8 1]) (by simp [results, Tryz.results53, go_sem]) rfl ?_
      exact ⟨_, _, _, rfl, hid ⟨HG.out, Below.refl _ _⟩⟩
    by_cases hy1 : 32 < y
    · as_aux_lemma =>
      have HG : Hid (FhP S x y z 0 0 1) := hid (.inl ⟨fun q => by omega, rfl, rfl, rfl⟩)
      obtain ⟨b, rfl, hb⟩ := hx.nat
      have HF := hid (firstLn_g hb w)
      have d1 : decide (y < 0) = false := decide_eq_false hy0
      have d2 : decide (32 < y) = true := decide_eq_true hy1
      generalize 32 * b = m at *
      clear h hx hy0 hy1
      go_enter Tryz.func53, Tryz.ntmps53
      (go_wp2_with fail; refine (HF.out).mono ?_; rintro e_ w_ ⟨he_, hw_⟩; subst he_; have hs_ := hw_.symm; clear hw_; subst hs_)
      go_wp2
      refine bodyPost_ret (v := .tuple #[.int .i64 0, .int .i64 0, .int .u8 1]) (by simp [results, Tryz.results53, go_sem]) rfl ?_
      exact ⟨_, _, _, rfl, hid ⟨HG.out, Below.refl _ _⟩⟩
    by_cases hz0 : z < 1
    · as_aux_lemma =>
      have HG : Hid (FhP S x y z 0 0 4) := hid (.inr (.inl ⟨⟨hx, by omega, by omega⟩, fun q => by omega, rfl, rfl, rfl⟩))
      obtain ⟨b, rfl, hb⟩ := hx.nat
      have HF := hid (firstLn_g hb w)
      have d1 : decide (y < 0) = false := decide_eq_false hy0
      have d2 : decide (32 < y) = false := decide_eq_false hy1
      have d3 : decide (z < 1) = true := decide_eq_true hz0
      generalize 32 * b = m at *
      clear h hx hy0 hy1 hz0
      go_enter Tryz.func53, Tryz.ntmps53
      (go_wp2_with fail; refine (HF.out).mono ?_; rintro e_ w_ ⟨he_, hw_⟩; subst he_; have hs_ := hw_.symm; clear hw_; subst hs_)
      go_wp2
      refine bodyPost_ret (v := .tuple #[.int .i64 0, .int .i64 0, .int .u8 4]) (by simp [results, Tryz.results53, go_sem]) rfl ?_
      exact ⟨_, _, _, rfl, hid ⟨HG.out, Below.refl _ _⟩⟩
    by_cases hz1 : 32 < z
    · as_aux_lemma =>
      have HG : Hid (FhP S x y z 0 0 4) := hid (.inr (.inl ⟨⟨hx, by omega, by omega⟩, fun q => by omega, rfl, rfl, rfl⟩))
      obtain ⟨b, rfl, hb⟩ := hx.nat
      have HF := hid (firstLn_g hb w)
      have d1 : decide (y < 0) = false := decide_eq_false hy0
      have d2 : decide (32 < y) = false := decide_eq_false hy1
      have d3 : decide (z < 1) = false := decide_eq_false hz0
      have d4 : decide (32 < z) = true := decide_eq_true hz1
      generalize 32 * b = m at *
      clear h hx hy0 hy1 hz0 hz1
      go_enter Tryz.func53, Tryz.ntmps53
      (go_wp2_with fail; refine (HF.out).mono ?_; rintro e_ w_ ⟨he_, hw_⟩; subst he_; have hs_ := hw_.symm; clear hw_; subst hs_)
      go_wp2
      refine bodyPost_ret (v := .tuple #[.int .i64 0, .int .i64 0, .int .u8 4]) (by simp [results, Tryz.results53, go_sem]) rfl ?_
      exact ⟨_, _, _, rfl, hid ⟨HG.out, Below.refl _ _⟩⟩
    · as_aux_lemma =>
      have HF2 : Hid (∀ r n s k : Int, FitP (zrP 4 16 S.T) (32 * x.toNat + y.toNat) (32 * x.toNat + 32) z.toNat s k → ((s = -1 ∧ r = 32 ∧ n = 0) ∨ (0 ≤ s ∧ r = s - ((32 * x.toNat : Nat) : Int) ∧ n = k)) → FhP S x y z r n 0) := hid (fun r n s k h1 h2 => .inr (.inr ⟨⟨hx, by omega, by omega⟩, ⟨by omega, by omega⟩, rfl, s, k, h1, h2⟩))
      obtain ⟨b, rfl, hb⟩ := hx.nat
      obtain ⟨j, rfl⟩ : ∃ j : Nat, y = (j : Int) := ⟨y.toNat, by omega⟩
      obtain ⟨i, rfl⟩ : ∃ i : Nat, z = (i : Int) := ⟨z.toNat, by omega⟩
      simp only [Int.toNat_natCast] at HF2
      have hj : j ≤ 32 := by omega
      have hi1 : 1 ≤ i := by omega
      have hi2 : i ≤ 32 := by omega
      have HF := hid (firstLn_g hb w)
      have hm : 32 * b + 32 ≤ 2048 := by omega
      have d1 : decide ((j : Int) < 0) = false := decide_eq_false hy0
      have d2 : decide ((32 : Int) < (j : Int)) = false := decide_eq_false hy1
      have d2' : decide (32 < j) = false := decide_eq_false (by omega)
      have d3 : decide ((i : Int) < 1) = false := decide_eq_false hz0
      have d4 : decide ((32 : Int) < (i : Int)) = false := decide_eq_false hz1
      have d4' : decide (32 < i) = false := decide_eq_false (by omega)
      have d3' : decide (i < 1) = false := decide_eq_false (by omega)
      generalize 32 * b = m at *
      have HZ : Hid (Calls Tryz.prog 163 #[.pointer (some ⟨l.tt, 0, none⟩), .int .i64 ((m : Int) + (j : Int)), .int .i64 ((m : Int) + 32), .int .i64 (i : Int)] w fun e w' => ∃ s k : Int, e = .returned (.tuple #[.int .i64 s, .int .i64 k, .bool true]) ∧ Hid (FitP (zrP 4 16 S.T) (m + j) (m + 32) i s k ∧ Below w.heap.size w w')) := hid (by
        have := h.tt.fitZeroRun (m + j) (m + 32) i (by omega) (by omega) hi1 (by omega)
        rw [show ((m + 32 : Nat) : Int) = (m : Int) + 32 by omega, show ((m + j : Nat) : Int) = (m : Int) + (j : Int) by omega] at this
        exact this)
      have k4 := h.cells.2.2.2.2.1
      generalize zrP 4 16 S.T = P at *
      clear h hx hy0 hy1 hb hz0 hz1
      go_enter Tryz.func53, Tryz.ntmps53
      (go_wp2_with fail; refine (HF.out).mono ?_; rintro e_ w_ ⟨he_, hw_⟩; subst he_; have hs_ := hw_.symm; clear hw_; subst hs_)
      go_wp2_with fail
      refine HZ.out.mono ?_
      rintro e w2 ⟨s, k, rfl, HB⟩
      have HBe := hid HB.out.2
      rcases HB.out.1.bounds with ⟨rfl, rfl⟩ | ⟨a, c, rfl, rfl, hc1, ha1, ha2⟩
      · as_aux_lemma =>
        have HG := hid (HF2.out _ _ _ _ HB.out.1 (.inl ⟨rfl, rfl, rfl⟩))
        clear HB HF2
        go_wp2
        refine bodyPost_ret (v := .tuple #[.int .i64 32, .int .i64 0, .int .u8 0]) (by simp [results, Tryz.results53, go_sem]) rfl ?_
        exact ⟨_, _, _, rfl, hid ⟨HG.out, HBe.out⟩⟩
      · as_aux_lemma =>
        have HG := hid (HF2.out ((a : Int) - (m : Int)) (c : Int) _ _ HB.out.1 (.inr ⟨by omega, rfl, rfl⟩))
        have d9 : decide ((a : Int) < 0) = false := decide_eq_false (by omega)
        clear HB HF2
        go_wp2
        refine bodyPost_ret (v := .tuple #[.int .i64 ((a : Int) - (m : Int)), .int .i64 (c : Int), .int .u8 0]) (by simp [results, Tryz.results53, go_sem]) rfl ?_
        exact ⟨_, _, _, rfl, hid ⟨HG.out, HBe.out⟩⟩
  · as_aux_lemma =>
    have HG : Hid (FhP S x y z 0 0 1) := hid (.inl ⟨fun q => hx q.1, rfl, rfl, rfl⟩)
    have HF := hid (firstLn_b hx w)
    clear h hx
    go_enter Tryz.func53, Tryz.ntmps53
    (go_wp2_with fail; refine (HF.out).mono ?_; rintro e_ w_ ⟨he_, hw_⟩; subst he_; have hs_ := hw_.symm; clear hw_; subst hs_)
    go_wp2
    refine bodyPost_ret (v := .tuple #[.int .i64 0, .int .i64 0, .int .u8 1]) (by simp [results, Tryz.results53, go_sem]) rfl ?_
    exact ⟨_, _, _, rfl, hid ⟨HG.out, Below.refl _ _⟩⟩
set_option maxRecDepth 100000 in
theorem countedInLinesZ (h : AM l S w) (a n : Int) : Calls Tryz.prog 236 #[.pointer (some ⟨l.a, 0, none⟩), .int .i64 a, .int .i64 n] w fun e w' => ∃ m : Nat, ∃ c : Int, e = .returned (.tuple #[.int .i64 (m : Int), .int .u8 c]) ∧ m ≤ 16777216 ∧ Hid (Below w.heap.size w w') := by
  have HR := hid (lineRangeZ a n w)
  by_cases hc : lrC a n = 0
  · rw [hc] at HR
    obtain ⟨b1, b2, b3, b4⟩ := lrC_ok hc
    obtain ⟨an, rfl⟩ : ∃ an : Nat, a = (an : Int) := ⟨a.toNat, by omega⟩
    obtain ⟨nn, rfl⟩ : ∃ nn : Nat, n = (nn : Int) := ⟨n.toNat, by omega⟩
    have c2 : an + nn ≤ 2048 := by omega
    have HN : Hid (Calls Tryz.prog 214 #[.pointer (some ⟨l.tc, 0, none⟩), .int .i64 ((an : Int) * 8), .int .i64 (((an : Int) + (nn : Int)) * 8)] w fun e w' => ∃ c : Nat, e = .returned (.tuple #[.int .i64 (c : Int), .bool true]) ∧ c ≤ 16777216 ∧ Hid (Below w.heap.size w w')) := hid (by
      have := h.tc.countNonzero (an * 8) ((an + nn) * 8) (by omega) (by omega)
      rw [show ((an * 8 : Nat) : Int) = (an : Int) * 8 by omega, show (((an + nn) * 8 : Nat) : Int) = ((an : Int) + (nn : Int)) * 8 by omega] at this
      exact this)
    have k1 := h.cells.2.1
    clear h hc b1 b2 b3 b4
    go_enter Tryz.func236, Tryz.ntmps236
    (go_wp2_with fail; refine (HR.out).mono ?_; rintro e_ w_ ⟨he_, hw_⟩; subst he_; have hs_ := hw_.symm; clear hw_; subst hs_)
    go_wp2_with fail
    refine HN.out.mono ?_
    rintro e w2 ⟨m, rfl, hm, HB⟩
    go_wp2
    go_ret2
    exact ⟨m, 0, rfl, hm, HB⟩
  · have dc : (lrC a n == 0) = false := by simpa using hc
    have dc2 : (lrC a n != 0) = true := by simp [bne, dc]
    generalize lrC a n = c at *
    clear h hc
    go_enter Tryz.func236, Tryz.ntmps236
    (go_wp2_with fail; refine (HR.out).mono ?_; rintro e_ w_ ⟨he_, hw_⟩; subst he_; have hs_ := hw_.symm; clear hw_; subst hs_)
    go_wp2
    go_ret2
    exact ⟨0, c, rfl, by omega, hid (Below.refl _ _)⟩
/-- All the lines of n blocks from b on. -/
def AllF (P : Nat → Bool) (b n : Nat) : Prop := ∀ i, 32 * b ≤ i → i < 32 * (b + n) → P i = true
/-- The first run of free blocks. -/
def FbP (P : Nat → Bool) (fr nd : Nat) (r : Int) (fd : Bool) : Prop := (fd = false ∧ r = 0 ∧ ∀ b, fr ≤ b → b + nd ≤ 64 → ¬ AllF P b nd) ∨ (fd = true ∧ ∃ k : Nat, r = (k : Int) ∧ fr ≤ k ∧ k + nd ≤ 64 ∧ AllF P k nd ∧ ∀ b, fr ≤ b → b < k → ¬ AllF P b nd)
/-- No run of free blocks begins below line a. -/
def FbA (P : Nat → Bool) (fr nd a : Nat) : Prop := ∀ b, fr ≤ b → b + nd ≤ 64 → AllF P b nd → a ≤ 32 * b
theorem FbA.none {P : Nat → Bool} {fr nd a : Nat} (h : FbA P fr nd a) (h1 : 1 ≤ nd) (hz : ∀ i, a ≤ i → i < 2048 → P i = false) : FbP P fr nd 0 false := .inl ⟨rfl, rfl, fun b hb hb2 hf => by
  have h2 := h b hb hb2 hf
  have h3 := hf (32 * b) (Nat.le_refl _) (by omega)
  rw [hz (32 * b) h2 (by omega)] at h3
  cases h3⟩
theorem FbA.run {P : Nat → Bool} {fr nd a k m : Nat} (h : FbA P fr nd a) (h1 : 1 ≤ nd) (ha : 32 * fr ≤ a) (hz : Zr P a 2048 (k : Int) (m : Int)) :
    (nd + (k + 31) / 32 ≤ (k + m) / 32 → FbP P fr nd (((k + 31) / 32 : Nat) : Int) true) ∧ (¬ nd + (k + 31) / 32 ≤ (k + m) / 32 → FbA P fr nd (k + m)) := by
  rcases hz with ⟨q, _⟩ | ⟨k', m', e1, e2, m1, k1, k2, z1, z2, z3⟩
  · omega
  obtain rfl : k = k' := by omega
  obtain rfl : m = m' := by omega
  have key : ∀ b, fr ≤ b → b + nd ≤ 64 → AllF P b nd → k ≤ 32 * b ∧ (32 * b < k + m → 32 * (b + nd) ≤ k + m) := fun b hb hb2 hf => by
    have h2 := h b hb hb2 hf
    have h3 := hf (32 * b) (Nat.le_refl _) (by omega)
    have h4 : k ≤ 32 * b := by
      by_cases hlt : 32 * b < k
      · rw [z1 (32 * b) h2 hlt] at h3; cases h3
      · omega
    refine ⟨h4, fun h5 => ?_⟩
    by_cases h6 : 32 * (b + nd) ≤ k + m
    · exact h6
    · have h7 := hf (k + m) (by omega) (by omega)
      rw [z3 (by omega)] at h7
      cases h7
  constructor
  · intro hge
    refine .inr ⟨rfl, (k + 31) / 32, rfl, by omega, by omega, fun i i1 i2 => z2 i (by omega) (by omega), fun b hb hlt hf => ?_⟩
    have := (key b hb (by omega) hf).1
    omega
  · intro hlt b hb hb2 hf
    have h3 := key b hb hb2 hf
    by_cases h4 : 32 * b < k + m
    · have := h3.2 h4
      omega
    · omega
/-- FreeBlockRun. -/
def FrP (S : AS) (x y r : Int) (fd : Bool) (c : Int) : Prop := (¬ BkI x ∧ r = 0 ∧ fd = false ∧ c = 1) ∨ (BkI x ∧ ¬ (1 ≤ y ∧ y ≤ 64) ∧ r = 0 ∧ fd = false ∧ c = 4) ∨ (BkI x ∧ (1 ≤ y ∧ y ≤ 64) ∧ c = 0 ∧ FbP (zrP 4 16 S.T) x.toNat y.toNat r fd)
set_option maxRecDepth 100000 in
set_option maxHeartbeats 2000000 in
theorem freeBlockRunZ (h : AM l S w) (x y : Int) : Calls Tryz.prog 54 #[.pointer (some ⟨l.a, 0, none⟩), .int .i64 x, .int .i64 y] w fun e w' => ∃ (r : Int) (fd : Bool) (c : Int), e = .returned (.tuple #[.int .i64 r, .bool fd, .int .u8 c]) ∧ Hid (FrP S x y r fd c ∧ Below w.heap.size w w') := by
  have HV := hid (validBlock_walk x w)
  by_cases hx : BkI x
  rotate_left
  · as_aux_lemma =>
    have HG : Hid (FrP S x y 0 false 1) := hid (.inl ⟨hx, rfl, rfl, rfl⟩)
    rw [decide_eq_false (show ¬ (0 ≤ x ∧ x < 64) from hx)] at HV
    clear h hx
    go_enter Tryz.func54, Tryz.ntmps54
    (go_wp2_with fail; refine (HV.out).mono ?_; rintro e_ w_ ⟨he_, hw_⟩; subst he_; have hs_ := hw_.symm; clear hw_; subst hs_)
    go_wp2
    refine bodyPost_ret (v := .tuple #[.int .i64 0, .bool false, .int .u8 1]) (by simp [results, Tryz.results54, go_sem]) rfl ?_
    exact ⟨_, _, _, rfl, hid ⟨HG.out, Below.refl _ _⟩⟩
  rw [decide_eq_true (show 0 ≤ x ∧ x < 64 from hx)] at HV
  by_cases hy0 : y < 1
  · as_aux_lemma =>
    have HG : Hid (FrP S x y 0 false 4) := hid (.inr (.inl ⟨hx, fun q => by omega, rfl, rfl, rfl⟩))
    have d1 : decide (y < 1) = true := decide_eq_true hy0
    clear h hx hy0
    go_enter Tryz.func54, Tryz.ntmps54
    (go_wp2_with fail; refine (HV.out).mono ?_; rintro e_ w_ ⟨he_, hw_⟩; subst he_; have hs_ := hw_.symm; clear hw_; subst hs_)
    go_wp2
    refine bodyPost_ret (v := .tuple #[.int .i64 0, .bool false, .int .u8 4]) (by simp [results, Tryz.results54, go_sem]) rfl ?_
    exact ⟨_, _, _, rfl, hid ⟨HG.out, Below.refl _ _⟩⟩
  by_cases hy1 : 64 < y
  · as_aux_lemma =>
    have HG : Hid (FrP S x y 0 false 4) := hid (.inr (.inl ⟨hx, fun q => by omega, rfl, rfl, rfl⟩))
    have d1 : decide (y < 1) = false := decide_eq_false hy0
    have d2 : decide (64 < y) = true := decide_eq_true hy1
    clear h hx hy0 hy1
    go_enter Tryz.func54, Tryz.ntmps54
    (go_wp2_with fail; refine (HV.out).mono ?_; rintro e_ w_ ⟨he_, hw_⟩; subst he_; have hs_ := hw_.symm; clear hw_; subst hs_)
    go_wp2
    refine bodyPost_ret (v := .tuple #[.int .i64 0, .bool false, .int .u8 4]) (by simp [results, Tryz.results54, go_sem]) rfl ?_
    exact ⟨_, _, _, rfl, hid ⟨HG.out, Below.refl _ _⟩⟩
  as_aux_lemma =>
  have HF2 : Hid (∀ (r : Int) (fd : Bool), FbP (zrP 4 16 S.T) x.toNat y.toNat r fd → FrP S x y r fd 0) := hid (fun r fd h1 => .inr (.inr ⟨hx, ⟨by omega, by omega⟩, rfl, h1⟩))
  obtain ⟨b, rfl, hb⟩ := hx.nat
  obtain ⟨j, rfl⟩ : ∃ j : Nat, y = (j : Int) := ⟨y.toNat, by omega⟩
  simp only [Int.toNat_natCast] at HF2
  have hj1 : 1 ≤ j := by omega
  have hj2 : j ≤ 64 := by omega
  have d1 : decide ((j : Int) < 1) = false := decide_eq_false hy0
  have d2 : decide ((64 : Int) < (j : Int)) = false := decide_eq_false hy1
  have d2' : decide (64 < j) = false := decide_eq_false (by omega)
  have d1' : decide (j < 1) = false := decide_eq_false (by omega)
  have HA := hid h
  obtain ⟨m, hm⟩ : ∃ m, 32 * b = m := ⟨_, rfl⟩
  have em : (b : Int) * 32 = (m : Int) := by omega
  have hmb : m ≤ 2048 := by omega
  obtain ⟨P, hP⟩ : ∃ P, zrP 4 16 S.T = P := ⟨_, rfl⟩
  have HP := hid hP
  have Hm := hid hm
  rw [hP] at HF2
  clear hP hm h hx hy0 hy1
  go_enter Tryz.func54, Tryz.ntmps54
  (go_wp2_with fail; refine (HV.out).mono ?_; rintro e_ w_ ⟨he_, hw_⟩; subst he_; have hs_ := hw_.symm; clear hw_; subst hs_)
  go_upto_region 6 with fail
  clear em
  go_loopw [9] (fun u wr => ∃ a : Nat, u = .int .i64 (a : Int) ∧ m ≤ a ∧ a ≤ 2048 ∧ Hid (FbA P b j a ∧ Below w.heap.size w wr)) (fun u _ => 2048 - (intOf u).toNat)
  case atStart => exact ⟨m, rfl, Nat.le_refl _, hmb, hid ⟨fun b' h1 _ _ => by have := Hm.out; omega, Below.refl _ _⟩⟩
  case round =>
  obtain ⟨a, rfl, ha1, ha2, HK⟩ := hrel
  by_cases hah : a < 2048
  rotate_left
  · as_aux_lemma =>
    have dq : decide ((a : Int) < 2048) = false := decide_eq_false (by omega)
    have HG := hid (HF2.out _ _ (HK.out.1.none hj1 (fun i h1 h2 => by omega)))
    have HBe := hid HK.out.2
    clear HK
    go_wp2
    refine bodyPost_ret (v := .tuple #[.int .i64 0, .bool false, .int .u8 0]) (by simp [results, Tryz.results54, go_sem]) rfl ?_
    exact ⟨_, _, _, rfl, hid ⟨HG.out, HBe.out⟩⟩
  as_aux_lemma =>
  have dq : decide ((a : Int) < 2048) = true := decide_eq_true (by omega)
  have HA1 := hid (HA.out.below HK.out.2)
  have HZ : Hid (Calls Tryz.prog 165 #[.pointer (some ⟨l.tt, 0, none⟩), .int .i64 (a : Int), .int .i64 2048] wr fun e w' => ∃ s k : Int, e = .returned (.tuple #[.int .i64 s, .int .i64 k, .bool true]) ∧ Hid (Zr P a 2048 s k ∧ Below wr.heap.size wr w')) := hid (by
    have := HA1.out.tt.zeroRun a 2048 (by omega) (by omega)
    rw [HP.out] at this
    exact this)
  have k4 := HA1.out.cells.2.2.2.2.1
  clear HA1
  go_wp2_with fail
  refine HZ.out.mono ?_
  rintro e w2 ⟨s, k, rfl, HB⟩
  have HBe : Hid (Below w.heap.size w w2) := hid (HK.out.2.trans (HB.out.2.mono HK.out.2.size))
  have HFa := hid HK.out.1
  have HZr := hid HB.out.1
  clear HZ k4 HK
  rcases HB.out.1.bounds with ⟨rfl, rfl⟩ | ⟨k, c, rfl, rfl, hc1, hk1, hk2⟩
  · as_aux_lemma =>
    have HG := hid (HF2.out _ _ (HFa.out.none hj1 (fun i h1 h2 => by
      rcases HZr.out with ⟨_, _, q⟩ | ⟨k, m, q, _⟩
      · exact q i h1 h2
      · omega)))
    clear HB HZr HFa HF2
    go_wp2
    refine bodyPost_ret (v := .tuple #[.int .i64 0, .bool false, .int .u8 0]) (by simp [results, Tryz.results54, go_sem]) rfl ?_
    exact ⟨_, _, _, rfl, hid ⟨HG.out, HBe.out⟩⟩
  as_aux_lemma =>
  have HR := hid (HFa.out.run hj1 (by have := Hm.out; omega) HZr.out)
  clear HB HZr HFa
  have d9 : decide ((k : Int) < 0) = false := decide_eq_false (by omega)
  have f1 : ((k : Int) + 32 - 1) / 32 = (((k + 31) / 32 : Nat) : Int) := by omega
  have f2 : ((k : Int) + (c : Int)) / 32 = (((k + c) / 32 : Nat) : Int) := by omega
  have hb1 : (k + 31) / 32 ≤ 64 := by omega
  have hb2 : (k + c) / 32 ≤ 64 := by omega
  by_cases hge : j + (k + 31) / 32 ≤ (k + c) / 32
  · as_aux_lemma =>
    have HG := hid (HF2.out _ _ (HR.out.1 hge))
    generalize (k + 31) / 32 = lo at *
    generalize (k + c) / 32 = hi at *
    have d5 : decide ((hi : Int) - (lo : Int) ≥ (j : Int)) = true := decide_eq_true (by omega)
    have d6 : decide ((j : Int) ≤ (hi : Int) - (lo : Int)) = true := decide_eq_true (by omega)
    clear HR hge HF2
    go_wp2
    refine bodyPost_ret (v := .tuple #[.int .i64 (lo : Int), .bool true, .int .u8 0]) (by simp [results, Tryz.results54, go_sem]; exact f1) rfl ?_
    exact ⟨_, _, _, rfl, hid ⟨HG.out, HBe.out⟩⟩
  · as_aux_lemma =>
    have HG : Hid (FbA P b j (k + c) ∧ Below w.heap.size w w2) := hid ⟨HR.out.2 hge, HBe.out⟩
    generalize (k + 31) / 32 = lo at *
    generalize (k + c) / 32 = hi at *
    have d5 : decide ((hi : Int) - (lo : Int) ≥ (j : Int)) = false := decide_eq_false (by omega)
    have d6 : decide ((j : Int) ≤ (hi : Int) - (lo : Int)) = false := decide_eq_false (by omega)
    clear HR hge HF2 HBe
    go_wp2
    exact ⟨⟨k + c, by go_num, by omega, by omega, HG⟩, by simp [intOf]; omega⟩
end
end Go.Proofs.Qxb6500887aGreat
