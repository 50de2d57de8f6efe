/- ZeroRun, FitZeroRun, LongestZeroRun, Clear, Each for tables of any width. -/
import Derived.Test.Qxb6500887aGreatAz7
namespace Go.Proofs.Qxb6500887aGreat
open Go.RowKit
set_option linter.unusedSimpArgs false
set_option linter.unusedVariables false

/-- A whole run of entries of which P holds, inside a range. -/
structure IsRun (P : Nat → Bool) (lo hi k m : Nat) : Prop where
  m1 : 1 ≤ m
  hlo : lo ≤ k
  hhi : k + m ≤ hi
  all : ∀ i, k ≤ i → i < k + m → P i = true
  left : k = lo ∨ P (k - 1) = false
  right : k + m = hi ∨ P (k + m) = false
/-- Where a search over runs stands: no run begins before a and reaches beyond it. -/
structure RB (P : Nat → Bool) (lo hi a : Nat) : Prop where
  hlo : lo ≤ a
  hhi : a ≤ hi
  bd : a = lo ∨ a = hi ∨ P a = false
theorem RB.start {P : Nat → Bool} {lo hi : Nat} (h : lo ≤ hi) : RB P lo hi lo := ⟨Nat.le_refl _, h, .inl rfl⟩
/-- Two runs that begin at one place are one. -/
theorem IsRun.uniq {P : Nat → Bool} {lo hi k m m' : Nat} (h : IsRun P lo hi k m) (h' : IsRun P lo hi k m') : m = m' := by
  rcases Nat.lt_trichotomy m m' with e | e | e
  · rcases h.right with r | r
    · have := h'.hhi; omega
    · rw [h'.all (k + m) (by omega) (by omega)] at r; cases r
  · exact e
  · rcases h'.right with r | r
    · have := h.hhi; omega
    · rw [h.all (k + m') (by omega) (by omega)] at r; cases r
/-- What ZeroRun finds from a on is a whole run, and the next one. -/
theorem RB.run {P : Nat → Bool} {lo hi a k m : Nat} (h : RB P lo hi a) (hz : Zr P a hi (k : Int) (m : Int)) : IsRun P lo hi k m ∧ a ≤ k ∧ RB P lo hi (k + m) ∧ ∀ k' m', IsRun P lo hi k' m' → k' < k + m → k' < a ∨ (k' = k ∧ m' = m) := by
  rcases hz with ⟨e, _⟩ | ⟨k2, m2, e1, e2, h1, h2, h3, h4, h5, h6⟩
  · omega
  · obtain rfl : k = k2 := by omega
    obtain rfl : m = m2 := by omega
    have hL : k = lo ∨ P (k - 1) = false := by
      rcases Nat.lt_or_ge a k with q | q
      · exact .inr (h4 (k - 1) (by omega) (by omega))
      · obtain rfl : a = k := by omega
        rcases h.bd with q2 | q2 | q2
        · exact .inl q2
        · omega
        · rw [h5 a (Nat.le_refl _) (by omega)] at q2
          cases q2
    have hRt : k + m = hi ∨ P (k + m) = false := by
      rcases Nat.lt_or_ge (k + m) hi with q | q
      · exact .inr (h6 q)
      · exact .inl (by omega)
    have hR : IsRun P lo hi k m := ⟨h1, by have := h.hlo; omega, h3, h5, hL, hRt⟩
    refine ⟨hR, h2, ⟨by have := h.hlo; omega, h3, by
      rcases Nat.lt_or_ge (k + m) hi with q | q
      · exact .inr (.inr (h6 q))
      · exact .inr (.inl (by omega))⟩, fun k' m' hr hlt => ?_⟩
    rcases Nat.lt_or_ge k' a with q | q
    · exact .inl q
    · refine .inr ?_
      have e : k' = k := by
        rcases Nat.lt_trichotomy k' k with q2 | q2 | q2
        · have a1 := h4 k' q q2
          rw [hr.all k' (Nat.le_refl _) (by have := hr.m1; omega)] at a1; cases a1
        · exact q2
        · rcases hr.left with q3 | q3
          · have := h.hlo; omega
          · rw [h5 (k' - 1) (by omega) (by omega)] at q3; cases q3
      exact ⟨e, by subst e; exact hr.uniq hR⟩
theorem RB.none {P : Nat → Bool} {lo hi a : Nat} {l : Int} (h : RB P lo hi a) (hz : Zr P a hi (-1) l) : ∀ k' m', IsRun P lo hi k' m' → k' < a := fun k' m' hr => by
  rcases hz with ⟨_, _, h1⟩ | ⟨k2, m2, e1, _⟩
  · rcases Nat.lt_or_ge k' a with q | q
    · exact q
    · have := h1 k' q (by have := hr.hhi; have := hr.m1; omega)
      rw [hr.all k' (Nat.le_refl _) (by have := hr.m1; omega)] at this; cases this
  · omega
/-- The first run that is long enough. -/
def FitP (P : Nat → Bool) (lo hi need : Nat) (s l : Int) : Prop := (s = -1 ∧ l = 0 ∧ ∀ k m, IsRun P lo hi k m → m < need) ∨ ∃ k m : Nat, s = (k : Int) ∧ l = (m : Int) ∧ IsRun P lo hi k m ∧ need ≤ m ∧ ∀ k' m', IsRun P lo hi k' m' → k' < k → m' < need
/-- The longest run, and of several the first. -/
def LongP (P : Nat → Bool) (lo hi : Nat) (s l : Int) : Prop := (s = -1 ∧ l = 0 ∧ ∀ k m, ¬ IsRun P lo hi k m) ∨ ∃ k m : Nat, s = (k : Int) ∧ l = (m : Int) ∧ IsRun P lo hi k m ∧ ∀ k' m', IsRun P lo hi k' m' → m' ≤ m ∧ (k' < k → m' < m)
/-- The longest among the runs that begin below a. -/
def LongA (P : Nat → Bool) (lo hi a : Nat) (s l : Int) : Prop := (s = -1 ∧ l = 0 ∧ ∀ k m, IsRun P lo hi k m → ¬ k < a) ∨ ∃ k m : Nat, s = (k : Int) ∧ l = (m : Int) ∧ (IsRun P lo hi k m ∧ k < a) ∧ ∀ k' m', IsRun P lo hi k' m' → k' < a → m' ≤ m ∧ (k' < k → m' < m)
theorem LongA.start {P : Nat → Bool} {lo hi : Nat} : LongA P lo hi lo (-1) 0 := .inl ⟨rfl, rfl, fun k m h => by have := h.hlo; omega⟩
theorem LongA.none {P : Nat → Bool} {lo hi a : Nat} {s l : Int} (h : LongA P lo hi a s l) (hall : ∀ k' m', IsRun P lo hi k' m' → k' < a) : LongP P lo hi s l := by
  rcases h with ⟨h1, h2, h3⟩ | ⟨k, m, h1, h2, h3, h4⟩
  · exact .inl ⟨h1, h2, fun k m hr => h3 k m hr (hall k m hr)⟩
  · exact .inr ⟨k, m, h1, h2, h3.1, fun k' m' hr => h4 k' m' hr (hall k' m' hr)⟩
theorem LongA.len {P : Nat → Bool} {lo hi a : Nat} {s l : Int} (h : LongA P lo hi a s l) : 0 ≤ l ∧ l ≤ (hi : Int) ∧ -1 ≤ s ∧ s ≤ (hi : Int) := by
  rcases h with ⟨h1, h2, h3⟩ | ⟨k, m, h1, h2, h3, h4⟩
  · omega
  · have := h3.1.hhi
    omega
theorem LongA.step {P : Nat → Bool} {lo hi a k m : Nat} {s l : Int} (h : LongA P lo hi a s l) (hr : IsRun P lo hi k m) (hak : a ≤ k) (hn : ∀ k' m', IsRun P lo hi k' m' → k' < k + m → k' < a ∨ (k' = k ∧ m' = m)) :
    (l < (m : Int) → LongA P lo hi (k + m) (k : Int) (m : Int)) ∧ (¬ l < (m : Int) → LongA P lo hi (k + m) s l) := by
  rcases h with ⟨h1, h2, h3⟩ | ⟨k0, m0, h1, h2, h3, h4⟩
  · refine ⟨fun _ => .inr ⟨k, m, rfl, rfl, ⟨hr, by have := hr.m1; omega⟩, fun k' m' hr' hlt => ?_⟩, fun hl => ?_⟩
    · rcases hn k' m' hr' hlt with q | ⟨rfl, rfl⟩
      · exact absurd q (h3 k' m' hr')
      · exact ⟨Nat.le_refl _, fun q => absurd q (Nat.lt_irrefl _)⟩
    · have := hr.m1; omega
  · refine ⟨fun hl => .inr ⟨k, m, rfl, rfl, ⟨hr, by have := hr.m1; omega⟩, fun k' m' hr' hlt => ?_⟩, fun hl => .inr ⟨k0, m0, h1, h2, ⟨h3.1, by omega⟩, fun k' m' hr' hlt => ?_⟩⟩
    · rcases hn k' m' hr' hlt with q | ⟨rfl, rfl⟩
      · have := h4 k' m' hr' q
        exact ⟨by omega, fun _ => by omega⟩
      · exact ⟨Nat.le_refl _, fun q => absurd q (Nat.lt_irrefl _)⟩
    · rcases hn k' m' hr' hlt with q | ⟨rfl, rfl⟩
      · exact h4 k' m' hr' q
      · exact ⟨by omega, fun q => by omega⟩
theorem Zr.bounds {P : Nat → Bool} {lo hi : Nat} {s l : Int} (h : Zr P lo hi s l) : (s = -1 ∧ l = 0) ∨ ∃ k m : Nat, s = (k : Int) ∧ l = (m : Int) ∧ 1 ≤ m ∧ lo ≤ k ∧ k + m ≤ hi := by
  rcases h with ⟨h1, h2, _⟩ | ⟨k, m, h1, h2, h3, h4, h5, _⟩
  · exact .inl ⟨h1, h2⟩
  · exact .inr ⟨k, m, h1, h2, h3, h4, h5⟩
section
variable {t b n wd per len : Nat} {X : Nat → Nat} {w w0 w' : World}
set_option maxRecDepth 100000 in
set_option maxHeartbeats 1000000 in
theorem TB.zeroRun (h : TB t b n wd per len X w) (lo hi : Nat) (h1 : lo ≤ hi) (h2 : hi ≤ n) : Calls Tryz.prog 165 #[.pointer (some ⟨t, 0, none⟩), .int .i64 (lo : Int), .int .i64 (hi : Int)] w fun e w' => ∃ s l : Int, e = .returned (.tuple #[.int .i64 s, .int .i64 l, .bool true]) ∧ Hid (Zr (zrP wd per X) lo hi s l ∧ Below w.heap.size w w') := by
  have HC := hid (h.nextZero lo hi h1 h2)
  have HT := hid h
  have hn := h.k.n
  clear h
  go_enter Tryz.func165, Tryz.ntmps165
  go_wp2_with fail
  refine HC.out.mono ?_
  rintro e w1 ⟨r, rfl, HB⟩
  clear HC
  rcases HB.out.1 with ⟨rfl, hall⟩ | ⟨k, rfl, hk1, hk2, hk3, hk4⟩
  · as_aux_lemma =>
    have HF : Hid (Zr (zrP wd per X) lo hi (-1) 0 ∧ Below w.heap.size w w1) := hid ⟨.inl ⟨rfl, rfl, hall⟩, HB.out.2⟩
    clear hall HB
    go_wp2
    refine bodyPost_ret (v := .tuple #[.int .i64 (-1), .int .i64 0, .bool true]) (by simp [results, Tryz.results165, go_sem]) rfl ?_
    exact ⟨-1, 0, rfl, HF⟩
  · as_aux_lemma =>
    have HT1 := hid (HT.out.below HB.out.2)
    have HN := hid (HT1.out.nextNonzero k hi (by omega) h2)
    have HZ := hid (fun (r : Int) (hr : Nx (nzP wd per X) k hi r) => zr_of hk1 hk2 hk3 hk4 hr)
    clear hk4 hk3
    go_wp2_with fail
    refine HN.out.mono ?_
    rintro e w2 ⟨r, rfl, HB2⟩
    have HB3 : Hid (Below w.heap.size w w2) := hid (HB.out.2.trans (HB2.out.2.mono HB.out.2.size))
    have HZr := hid (HZ.out r HB2.out.1)
    have hrb : r = -1 ∨ ∃ m : Nat, r = (m : Int) ∧ k ≤ m ∧ m < hi := by
      rcases HB2.out.1 with ⟨h, _⟩ | ⟨m, h, h1, h2, _⟩
      · exact .inl h
      · exact .inr ⟨m, h, h1, h2⟩
    clear HN HZ HB HB2 HT1
    rcases hrb with rfl | ⟨m, rfl, hm1, hm2⟩
    · as_aux_lemma =>
      have HF := hid (HZr.out.1 rfl)
      clear HZr
      go_wp2
      refine bodyPost_ret (v := .tuple #[.int .i64 (k : Int), .int .i64 ((hi : Int) - (k : Int)), .bool true]) (by simp [results, Tryz.results165, go_sem]) rfl ?_
      exact ⟨_, _, rfl, hid ⟨HF.out, HB3.out⟩⟩
    · as_aux_lemma =>
      have HF := hid (HZr.out.2 (by omega))
      have d0 : decide ((m : Int) < 0) = false := decide_eq_false (by omega)
      clear HZr
      go_wp2
      refine bodyPost_ret (v := .tuple #[.int .i64 (k : Int), .int .i64 ((m : Int) - (k : Int)), .bool true]) (by simp [results, Tryz.results165, go_sem]) rfl ?_
      exact ⟨_, _, rfl, hid ⟨HF.out.2.2, HB3.out⟩⟩
set_option maxRecDepth 100000 in
set_option maxHeartbeats 1000000 in
theorem TB.fitZeroRun (h : TB t b n wd per len X w) (lo hi need : Nat) (h1 : lo ≤ hi) (h2 : hi ≤ n) (hn1 : 1 ≤ need) (hn2 : need ≤ 32768) : Calls Tryz.prog 163 #[.pointer (some ⟨t, 0, none⟩), .int .i64 (lo : Int), .int .i64 (hi : Int), .int .i64 (need : Int)] w fun e w' => ∃ s l : Int, e = .returned (.tuple #[.int .i64 s, .int .i64 l, .bool true]) ∧ Hid (FitP (zrP wd per X) lo hi need s l ∧ Below w.heap.size w w') := by
  have HH := hid (h.hasRange lo hi h1 h2)
  have HT := hid h
  have hn := h.k.n
  have d0 : decide ((need : Int) < 1) = false := decide_eq_false (by omega)
  clear h
  obtain ⟨P, hP⟩ : ∃ P, zrP wd per X = P := ⟨_, rfl⟩
  have HP := hid hP
  rw [hP]
  clear hP
  go_enter Tryz.func163, Tryz.ntmps163
  go_wp2_with fail
  refine HH.out.mono ?_
  rintro e w1 ⟨rfl, hw1⟩
  have hw1' := hw1.symm
  clear hw1
  subst hw1'
  clear HH
  go_upto_region 3 with fail
  go_loopw [1] (fun u wr => ∃ a : Nat, u = .int .i64 (a : Int) ∧ a ≤ hi ∧ Hid (RB P lo hi a ∧ (∀ k m, IsRun P lo hi k m → k < a → m < need) ∧ Below w.heap.size w wr)) (fun u _ => hi - (intOf u).toNat)
  case atStart => exact ⟨lo, rfl, h1, hid ⟨RB.start h1, fun k m hr hlt => by have := hr.hlo; omega, Below.refl _ _⟩⟩
  case round =>
  obtain ⟨a, rfl, ha, HK⟩ := hrel
  by_cases hah : a < hi
  rotate_left
  · as_aux_lemma =>
    have dq : decide ((a : Int) < (hi : Int)) = false := decide_eq_false (by omega)
    have HF : Hid (FitP P lo hi need (-1) 0 ∧ Below w.heap.size w wr) := hid ⟨.inl ⟨rfl, rfl, fun k m hr => HK.out.2.1 k m hr (by have := hr.hhi; have := hr.m1; omega)⟩, HK.out.2.2⟩
    clear HK
    go_wp2
    refine bodyPost_ret (v := .tuple #[.int .i64 (-1), .int .i64 0, .bool true]) (by simp [results, Tryz.results163, go_sem]) rfl ?_
    exact ⟨-1, 0, rfl, HF⟩
  as_aux_lemma =>
  have dq : decide ((a : Int) < (hi : Int)) = true := decide_eq_true (by omega)
  have HZ := hid ((HT.out.below HK.out.2.2).zeroRun a hi (by omega) h2)
  rw [HP.out] at HZ
  go_wp2_with fail
  refine HZ.out.mono ?_
  rintro e w2 ⟨s, l, rfl, HB⟩
  clear HZ
  have HB2 : Hid (Below w.heap.size w w2) := hid (HK.out.2.2.trans (HB.out.2.mono HK.out.2.2.size))
  rcases HB.out.1.bounds with ⟨rfl, rfl⟩ | ⟨k, m, rfl, rfl, hm1, hk1, hk2⟩
  · as_aux_lemma =>
    have HF : Hid (FitP P lo hi need (-1) 0 ∧ Below w.heap.size w w2) := hid ⟨.inl ⟨rfl, rfl, fun k m hr => HK.out.2.1 k m hr (HK.out.1.none HB.out.1 k m hr)⟩, HB2.out⟩
    clear HK HB HB2
    go_wp2
    refine bodyPost_ret (v := .tuple #[.int .i64 (-1), .int .i64 0, .bool true]) (by simp [results, Tryz.results163, go_sem]) rfl ?_
    exact ⟨-1, 0, rfl, HF⟩
  · have HR := hid (HK.out.1.run HB.out.1)
    have HQ := hid HK.out.2.1
    clear HK HB
    have d1 : decide ((k : Int) < 0) = false := decide_eq_false (by omega)
    by_cases hnm : need ≤ m
    · as_aux_lemma =>
      have d2 : decide ((m : Int) ≥ (need : Int)) = true := decide_eq_true (by omega)
      have d3 : decide (need ≤ m) = true := decide_eq_true hnm
      have HF : Hid (FitP P lo hi need (k : Int) (m : Int) ∧ Below w.heap.size w w2) := hid ⟨.inr ⟨k, m, rfl, rfl, HR.out.1, hnm, fun k' m' hr hlt => by
        rcases HR.out.2.2.2 k' m' hr (by omega) with q | ⟨q, _⟩
        · exact HQ.out k' m' hr q
        · omega⟩, HB2.out⟩
      clear HR HQ HB2
      go_wp2
      refine bodyPost_ret (v := .tuple #[.int .i64 (k : Int), .int .i64 (m : Int), .bool true]) (by simp [results, Tryz.results163, go_sem]) rfl ?_
      exact ⟨_, _, rfl, HF⟩
    · as_aux_lemma =>
      have d2 : decide ((m : Int) ≥ (need : Int)) = false := decide_eq_false (by omega)
      have d3 : decide (need ≤ m) = false := decide_eq_false hnm
      have HF : Hid (RB P lo hi (k + m) ∧ (∀ k' m', IsRun P lo hi k' m' → k' < k + m → m' < need) ∧ Below w.heap.size w w2) := hid ⟨HR.out.2.2.1, fun k' m' hr hlt => by
        rcases HR.out.2.2.2 k' m' hr hlt with q | ⟨_, q⟩
        · exact HQ.out k' m' hr q
        · omega, HB2.out⟩
      clear HR HQ HB2
      go_wp2
      exact ⟨⟨k + m, by go_num, hk2, HF⟩, by simp [intOf]; omega⟩
set_option maxRecDepth 100000 in
set_option maxHeartbeats 1000000 in
theorem TB.longestZeroRun (h : TB t b n wd per len X w) (lo hi : Nat) (h1 : lo ≤ hi) (h2 : hi ≤ n) : Calls Tryz.prog 162 #[.pointer (some ⟨t, 0, none⟩), .int .i64 (lo : Int), .int .i64 (hi : Int)] w fun e w' => ∃ s l : Int, e = .returned (.tuple #[.int .i64 s, .int .i64 l, .bool true]) ∧ Hid (LongP (zrP wd per X) lo hi s l ∧ Below w.heap.size w w') := by
  have HH := hid (h.hasRange lo hi h1 h2)
  have HT := hid h
  have hn := h.k.n
  clear h
  obtain ⟨P, hP⟩ : ∃ P, zrP wd per X = P := ⟨_, rfl⟩
  have HP := hid hP
  rw [hP]
  clear hP
  go_enter Tryz.func162, Tryz.ntmps162
  go_wp2_with fail
  refine HH.out.mono ?_
  rintro e w1 ⟨rfl, hw1⟩
  have hw1' := hw1.symm
  clear hw1
  subst hw1'
  clear HH
  go_upto_region 4 with fail
  go_loopw [1, 6, 7] (fun u v z wr => ∃ (a : Nat) (s l : Int), u = .int .i64 (a : Int) ∧ v = .int .i64 s ∧ z = .int .i64 l ∧ a ≤ hi ∧ Hid (RB P lo hi a ∧ LongA P lo hi a s l ∧ Below w.heap.size w wr)) (fun u _ _ _ => hi - (intOf u).toNat)
  case atStart => exact ⟨lo, -1, 0, rfl, rfl, rfl, h1, hid ⟨RB.start h1, LongA.start, Below.refl _ _⟩⟩
  case round =>
  obtain ⟨a, s, l, rfl, rfl, rfl, ha, HK⟩ := hrel
  by_cases hah : a < hi
  rotate_left
  · as_aux_lemma =>
    have dq : decide ((a : Int) < (hi : Int)) = false := decide_eq_false (by omega)
    have HF : Hid (LongP P lo hi s l ∧ Below w.heap.size w wr) := hid ⟨HK.out.2.1.none (fun k m hr => by have := hr.hhi; have := hr.m1; omega), HK.out.2.2⟩
    clear HK
    go_wp2
    refine bodyPost_ret (v := .tuple #[.int .i64 s, .int .i64 l, .bool true]) (by simp [results, Tryz.results162, go_sem]) rfl ?_
    exact ⟨s, l, rfl, HF⟩
  as_aux_lemma =>
  have dq : decide ((a : Int) < (hi : Int)) = true := decide_eq_true (by omega)
  have HZ := hid ((HT.out.below HK.out.2.2).zeroRun a hi (by omega) h2)
  rw [HP.out] at HZ
  go_wp2_with fail
  refine HZ.out.mono ?_
  rintro e w2 ⟨s2, l2, rfl, HB⟩
  clear HZ
  have HB2 : Hid (Below w.heap.size w w2) := hid (HK.out.2.2.trans (HB.out.2.mono HK.out.2.2.size))
  rcases HB.out.1.bounds with ⟨rfl, rfl⟩ | ⟨k, m, rfl, rfl, hm1, hk1, hk2⟩
  · as_aux_lemma =>
    have HF : Hid (LongP P lo hi s l ∧ Below w.heap.size w w2) := hid ⟨HK.out.2.1.none (HK.out.1.none HB.out.1), HB2.out⟩
    clear HK HB HB2
    go_wp2
    refine bodyPost_ret (v := .tuple #[.int .i64 s, .int .i64 l, .bool true]) (by simp [results, Tryz.results162, go_sem]) rfl ?_
    exact ⟨s, l, rfl, HF⟩
  · have HR := hid (HK.out.1.run HB.out.1)
    have HS := hid (HK.out.2.1.step HR.out.1 HR.out.2.1 HR.out.2.2.2)
    clear HK HB
    have d1 : decide ((k : Int) < 0) = false := decide_eq_false (by omega)
    by_cases hnm : l < (m : Int)
    · as_aux_lemma =>
      have d2 : decide (l < (m : Int)) = true := decide_eq_true hnm
      have HF : Hid (RB P lo hi (k + m) ∧ LongA P lo hi (k + m) (k : Int) (m : Int) ∧ Below w.heap.size w w2) := hid ⟨HR.out.2.2.1, HS.out.1 hnm, HB2.out⟩
      clear HR HS HB2
      go_wp2
      exact ⟨⟨k + m, _, _, by go_num, rfl, rfl, hk2, HF⟩, by simp [intOf]; omega⟩
    · as_aux_lemma =>
      have d2 : decide (l < (m : Int)) = false := decide_eq_false hnm
      have HF : Hid (RB P lo hi (k + m) ∧ LongA P lo hi (k + m) s l ∧ Below w.heap.size w w2) := hid ⟨HR.out.2.2.1, HS.out.2 hnm, HB2.out⟩
      clear HR HS HB2
      go_wp2
      exact ⟨⟨k + m, _, _, by go_num, rfl, rfl, hk2, HF⟩, by simp [intOf]; omega⟩
end
end Go.Proofs.Qxb6500887aGreat
