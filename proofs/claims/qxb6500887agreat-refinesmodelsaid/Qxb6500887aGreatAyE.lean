/- The model's readers: lines, holes. -/
import Derived.Test.Qxb6500887aGreatAyD
import Derived.Deep.DeepCutAuto
namespace Go.Proofs.Qxb6500887aGreat
open Go.RowKit
set_option linter.unusedSimpArgs false
set_option linter.unusedVariables false
section
variable {l : ML} {E : ES} {w w' w0 : World}
def flE (T : Nat → Nat) (b : Nat) : Nat → Nat := cnt (fun i => decide (T (32 * b + i) = 0))
theorem flE_succ (T : Nat → Nat) (b i : Nat) : flE T b (i + 1) = flE T b i + (decide (T (32 * b + i) = 0)).toNat := rfl
theorem cnt_bound (P : Nat → Bool) : ∀ n, cnt P n ≤ n
  | 0 => Nat.le_refl 0
  | n + 1 => by have := cnt_bound P n; unfold cnt; cases P n <;> simp <;> omega
set_option maxRecDepth 100000 in
theorem flsM (h : MM l E w) {b : Nat} (hb : b < 64) : Calls Tryz.prog 116 #[.pointer (some ⟨l.m, 0, none⟩), .int .i64 (b : Int)] w fun e w' => e = .returned (.int .i64 ((flE E.T b 32 : Nat) : Int)) ∧ w' = w := by
  obtain ⟨_, _, _, _, c4, _⟩ := h.cells
  have HT := hid (fun (i : Nat) (hi : i < 2048) => h.tally hi)
  clear h
  go_enter Tryz.func116, Tryz.ntmps116
  go_upto_region 3 with fail
  go_loopw [5, 6] (fun t u wr => wr = w ∧ ∃ j : Nat, u = .int .i64 (j : Int) ∧ t = .int .i64 ((flE E.T b j : Nat) : Int) ∧ j ≤ 32) (fun _ u _ => 32 - (intOf u).toNat)
  case atStart => exact ⟨rfl, 0, rfl, rfl, Nat.zero_le _⟩
  case round =>
  obtain ⟨hwr, j, rfl, rfl, hj⟩ := hrel
  have hwr' := hwr.symm
  clear hwr
  subst hwr'
  have hfb : flE E.T b j ≤ j := cnt_bound _ _
  by_cases hjn : j < 32
  · have dj : decide ((j : Int) < 32) = true := decide_eq_true (by omega)
    have Hs := hid (flE_succ E.T b j)
    obtain ⟨k, hk⟩ : ∃ k, 32 * b + j = k := ⟨_, rfl⟩
    have hk2 : k < 2048 := by omega
    have ct := HT.out k hk2
    have ek : (b : Int) * 32 + (j : Int) = (k : Int) := by omega
    rw [hk] at Hs
    clear hk
    generalize flE E.T b j = f at *
    generalize E.T k = t at *
    by_cases ht : t = 0
    · as_aux_lemma =>
      have dt : ((t : Int) == 0) = true := by simp; omega
      rw [decide_eq_true ht] at Hs
      clear ht
      go_wp2
      exact ⟨⟨by trivial, j + 1, by go_num, by rw [Hs.out]; show _ = Value.int .i64 ((f + 1 : Nat) : Int); go_num, by omega⟩, by simp [intOf]; omega⟩
    · as_aux_lemma =>
      have dt : ((t : Int) == 0) = false := by simp; omega
      rw [decide_eq_false ht] at Hs
      clear ht
      go_wp2
      exact ⟨⟨by trivial, j + 1, by go_num, by rw [Hs.out]; rfl, by omega⟩, by simp [intOf]; omega⟩
  · as_aux_lemma =>
    have dj : decide ((j : Int) < 32) = false := decide_eq_false (by omega)
    have ej : j = 32 := by omega
    have ef : Hid (flE E.T b j = flE E.T b 32) := hid (by rw [ej])
    generalize flE E.T b j = f at *
    clear ej
    go_wp2
    go_ret
    exact ⟨by rw [← ef.out]; rfl, rfl⟩
/-- A hole as the model sees it. -/
structure HoA (T : Nat → Nat) (b r n : Nat) : Prop where
  le : r + n ≤ 32
  z : ∀ j, j < n → T (32 * b + r + j) = 0
  e : r + n < 32 → T (32 * b + r + n) ≠ 0
set_option maxRecDepth 100000 in
theorem haM (h : MM l E w) {b r : Nat} (hb : b < 64) (hr : r ≤ 32) : Calls Tryz.prog 195 #[.pointer (some ⟨l.m, 0, none⟩), .int .i64 (b : Int), .int .i64 (r : Int)] w fun e w' => ∃ n : Nat, e = .returned (.int .i64 (n : Int)) ∧ Hid (HoA E.T b r n) ∧ w' = w := by
  obtain ⟨_, _, _, _, c4, _⟩ := h.cells
  have HT := hid (fun (i : Nat) (hi : i < 2048) => h.tally hi)
  clear h
  go_enter Tryz.func195, Tryz.ntmps195
  go_upto_region 2 with fail
  go_loopw [7] (fun u wr => wr = w ∧ ∃ j : Nat, u = .int .i64 (j : Int) ∧ r + j ≤ 32 ∧ Hid (∀ i, i < j → E.T (32 * b + r + i) = 0)) (fun u _ => 32 - (intOf u).toNat)
  case atStart => exact ⟨rfl, 0, rfl, by omega, hid (fun i hi => by omega)⟩
  case round =>
  obtain ⟨hwr, j, rfl, hj, HI⟩ := hrel
  have hwr' := hwr.symm
  clear hwr
  subst hwr'
  obtain ⟨y, hy⟩ : ∃ y, r + j = y := ⟨_, rfl⟩
  have ey : (r : Int) + (j : Int) = (y : Int) := by omega
  by_cases hjn : y < 32
  · have dj : decide ((y : Int) < 32) = true := decide_eq_true (by omega)
    obtain ⟨k, hk⟩ : ∃ k, 32 * b + r + j = k := ⟨_, rfl⟩
    have hk2 : k < 2048 := by omega
    have ct := HT.out k hk2
    obtain ⟨k1, hk1⟩ : ∃ k1, 32 * b + r = k1 := ⟨_, rfl⟩
    have ek1 : (b : Int) * 32 + (r : Int) = (k1 : Int) := by omega
    have ek : (k1 : Int) + (j : Int) = (k : Int) := by omega
    have hk3 : k1 < 2048 := by omega
    have Hk := hid hk
    obtain ⟨t, htv⟩ : ∃ t, E.T k = t := ⟨_, rfl⟩
    rw [htv] at ct
    have Htv := hid htv
    clear hk hk1 htv
    by_cases ht : t = 0
    · as_aux_lemma =>
      have dt : ((t : Int) == 0) = true := by simp; omega
      have HN : Hid (∀ i, i < j + 1 → E.T (32 * b + r + i) = 0) := hid (fun i hi => by
        by_cases e : i = j
        · rw [e, Hk.out, Htv.out]; exact ht
        · exact HI.out i (by omega))
      clear ht HI Htv
      go_wp2
      exact ⟨⟨by trivial, j + 1, by go_num, by omega, HN⟩, by simp [intOf]; omega⟩
    · as_aux_lemma =>
      have dt : ((t : Int) == 0) = false := by simp; omega
      have HN : Hid (HoA E.T b r j) := hid ⟨hj, HI.out, fun _ => by rw [Hk.out, Htv.out]; exact ht⟩
      clear ht HI Htv
      go_wp2
      go_ret
      exact ⟨j, rfl, HN, rfl⟩
  · as_aux_lemma =>
    have dj : decide ((y : Int) < 32) = false := decide_eq_false (by omega)
    have HN : Hid (HoA E.T b r j) := hid ⟨hj, HI.out, fun _ => by omega⟩
    clear HI
    go_wp2
    go_ret
    exact ⟨j, rfl, HN, rfl⟩
def shB (T : Nat → Nat) (b f r : Nat) : Bool := decide (T (32 * b + r) = 0) && (decide (r = f) || decide (T (32 * b + r - 1) ≠ 0))
set_option maxRecDepth 100000 in
theorem shM (h : MM l E w) {b f r : Nat} (hb : b < 64) (hr : r < 32) (hf : f ≤ r) : Calls Tryz.prog 194 #[.pointer (some ⟨l.m, 0, none⟩), .int .i64 (b : Int), .int .i64 (f : Int), .int .i64 (r : Int)] w fun e w' => e = .returned (.bool (shB E.T b f r)) ∧ w' = w := by
  obtain ⟨_, _, _, _, c4, _⟩ := h.cells
  obtain ⟨k, hk⟩ : ∃ k, 32 * b + r = k := ⟨_, rfl⟩
  have hk2 : k < 2048 := by omega
  have ct := h.tally hk2
  have ek : (b : Int) * 32 + (r : Int) = (k : Int) := by omega
  unfold shB
  rw [hk]
  obtain ⟨t, htv⟩ : ∃ t, E.T k = t := ⟨_, rfl⟩
  rw [htv] at ct ⊢
  clear htv
  by_cases ht : t = 0
  · have dt : ((t : Int) != 0) = false := by simp; omega
    rw [decide_eq_true ht]
    clear ht
    by_cases hrf : r = f
    · have df : ((r : Int) == (f : Int)) = true := by simp; omega
      rw [decide_eq_true hrf]
      clear hrf h
      go_enter Tryz.func194, Tryz.ntmps194
      go_wp2
      go_ret
      exact ⟨rfl, rfl⟩
    · have df : ((r : Int) == (f : Int)) = false := by simp; omega
      rw [decide_eq_false hrf]
      have ct1 := h.tally (i := k - 1) (by omega)
      obtain ⟨k1, hk1⟩ : ∃ k1, k - 1 = k1 := ⟨_, rfl⟩
      have ek1 : (k : Int) - 1 = (k1 : Int) := by omega
      have hk3 : k1 < 2048 := by omega
      rw [hk1] at ct1 ⊢
      obtain ⟨t1, htv⟩ : ∃ t, E.T k1 = t := ⟨_, rfl⟩
      rw [htv] at ct1 ⊢
      clear htv hk1 h
      by_cases ht1 : t1 = 0
      · have dt1 : ((t1 : Int) != 0) = false := by simp; omega
        rw [decide_eq_false (by omega : ¬ t1 ≠ 0)]
        clear ht1
        go_enter Tryz.func194, Tryz.ntmps194
        go_wp2
        go_ret
        exact ⟨rfl, rfl⟩
      · have dt1 : ((t1 : Int) != 0) = true := by simp; omega
        rw [decide_eq_true (by omega : t1 ≠ 0)]
        clear ht1
        go_enter Tryz.func194, Tryz.ntmps194
        go_wp2
        go_ret
        exact ⟨rfl, rfl⟩
  · have dt : ((t : Int) != 0) = true := by simp; omega
    rw [decide_eq_false ht]
    clear ht h
    go_enter Tryz.func194, Tryz.ntmps194
    go_wp2
    go_ret
    exact ⟨rfl, rfl⟩
open Classical in
/-- No word of the run lies in a line of tally 0. -/
noncomputable def hsE (T : Nat → Nat) (k n : Nat) : Bool := decide (∀ i, k ≤ i → i < k + n → T (i / 16) ≠ 0)
set_option maxRecDepth 100000 in
theorem hoM (h : MM l E w) {k n : Nat} (hk : k + n ≤ 32768) : Calls Tryz.prog 107 #[.pointer (some ⟨l.m, 0, none⟩), .int .i64 (k : Int), .int .i64 (n : Int)] w fun e w' => e = .returned (.bool (hsE E.T k n)) ∧ w' = w := by
  obtain ⟨_, _, _, _, c4, _⟩ := h.cells
  have HT := hid (fun (i : Nat) (hi : i < 2048) => h.tally hi)
  clear h
  obtain ⟨y, hy⟩ : ∃ y, k + n = y := ⟨_, rfl⟩
  have ey : (k : Int) + (n : Int) = (y : Int) := by omega
  have HP : Hid (hsE E.T k n = true ↔ ∀ i, k ≤ i → i < y → E.T (i / 16) ≠ 0) := hid (by rw [← hy]; unfold hsE; exact @decide_eq_true_iff _ (Classical.propDecidable _))
  generalize hsE E.T k n = bb at *
  go_enter Tryz.func107, Tryz.ntmps107
  go_upto_region 2 with fail
  go_loopw [7] (fun u wr => wr = w ∧ ∃ j : Nat, u = .int .i64 (j : Int) ∧ k ≤ j ∧ j ≤ y ∧ Hid (∀ i, k ≤ i → i < j → E.T (i / 16) ≠ 0)) (fun u _ => 32768 - (intOf u).toNat)
  case atStart => exact ⟨rfl, k, rfl, by omega, by omega, hid (fun i h1 h2 => by omega)⟩
  case round =>
  obtain ⟨hwr, j, rfl, hj0, hj, HI⟩ := hrel
  have hwr' := hwr.symm
  clear hwr
  subst hwr'
  by_cases hjn : j < y
  · have dj : decide ((j : Int) < (y : Int)) = true := decide_eq_true (by omega)
    obtain ⟨q, hq⟩ : ∃ q, j / 16 = q := ⟨_, rfl⟩
    have hq2 : q < 2048 := by omega
    have ct := HT.out q hq2
    have eq1 : (j : Int).tdiv 16 = (q : Int) := by
      rw [Int.tdiv_eq_ediv_of_nonneg (by omega)]; omega
    have eq2 : (j : Int) / 16 = (q : Int) := by omega
    have Hq := hid hq
    obtain ⟨t, htv⟩ : ∃ t, E.T q = t := ⟨_, rfl⟩
    rw [htv] at ct
    have Htv := hid htv
    clear hq htv
    by_cases ht : t = 0
    · as_aux_lemma =>
      have dt : ((t : Int) == 0) = true := by simp; omega
      have eb : bb = false := by
        cases hb : bb with
        | false => rfl
        | true => exact absurd (show E.T (j / 16) = 0 by rw [Hq.out, Htv.out]; exact ht) (HP.out.1 hb j hj0 hjn)
      have Eb := hid eb
      clear ht HI Htv eb
      go_wp2
      go_ret
      exact ⟨by rw [Eb.out]; rfl, rfl⟩
    · as_aux_lemma =>
      have dt : ((t : Int) == 0) = false := by simp; omega
      have HN : Hid (∀ i, k ≤ i → i < j + 1 → E.T (i / 16) ≠ 0) := hid (fun i h1 h2 => by
        by_cases e : i = j
        · rw [e, Hq.out, Htv.out]; exact ht
        · exact HI.out i h1 (by omega))
      clear ht HI Htv
      go_wp2
      exact ⟨⟨by trivial, j + 1, by go_num, by omega, by omega, HN⟩, by simp [intOf]; omega⟩
  · as_aux_lemma =>
    have dj : decide ((j : Int) < (y : Int)) = false := decide_eq_false (by omega)
    have eb : bb = true := HP.out.2 (fun i h1 h2 => HI.out i h1 (by omega))
    have Eb := hid eb
    clear HI eb
    go_wp2
    go_ret
    exact ⟨by rw [Eb.out]; rfl, rfl⟩
end
end Go.Proofs.Qxb6500887aGreat
