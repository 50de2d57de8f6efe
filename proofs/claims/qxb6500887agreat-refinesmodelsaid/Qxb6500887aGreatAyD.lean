/- The model's readers: objects, lines, holes. -/
import Derived.Test.Qxb6500887aGreatAyC
import Derived.Deep.DeepCutAuto
namespace Go.Proofs.Qxb6500887aGreat
open Go.RowKit
set_option linter.unusedSimpArgs false
set_option linter.unusedVariables false
theorem results_tmp4 {fn : Func} {t u v x : Tmp} (h : fn.results = #[.tmp t, .tmp u, .tmp v, .tmp x]) (tmps : Array Value) (P : Program) (w : World) :
    (results fn tmps).run P w = .ok (.tuple #[tmps.getD t undef, tmps.getD u undef, tmps.getD v undef, tmps.getD x undef]) w := by
  simp [results, h]
section
variable {l : ML} {E : ES} {w w' w0 : World}
def opW (W : Nat → Nat) (g : Nat) : Int := if isHdr (W (2 * g)) then lenOut ((2 * g : Nat) : Int) (1 + decSize (W (2 * g))) else 6
def onE (W : Nat → Nat) (x : Int) : Int := if wantO x = 0 then opW W (gIx x) else wantO x
/-- The four results of open. -/
def owR (W : Nat → Nat) (g : Nat) (c : Int) : Array Value := if c = 0 then #[.int .i64 ((2 * g : Nat) : Int), .int .i64 (decSize (W (2 * g))), .int .i64 (decRefs (W (2 * g))), .int .u8 0] else #[.int .i64 0, .int .i64 0, .int .i64 0, .int .u8 c]
set_option maxRecDepth 100000 in
theorem owM (h : MM l E w) {g : Nat} (hg : g < 16384) : Calls Tryz.prog 192 #[.pointer (some ⟨l.m, 0, none⟩), .int .i64 ((2 * g : Nat) : Int)] w fun e w' => e = .returned (.tuple (owR E.W g (opW E.W g))) ∧ w' = w := by
  obtain ⟨c0, _⟩ := h.cells
  have cw := h.word (i := 2 * g) (by omega)
  have hx := h.wl (2 * g)
  unfold opW owR
  generalize E.W (2 * g) = x at *
  have HH := hid (hdM (x : Int) (by omega) (by omega) w)
  obtain ⟨k, hk⟩ : ∃ k, 2 * g = k := ⟨_, rfl⟩
  rw [hk] at cw ⊢
  have hk2 : k < 32768 := by omega
  clear hk hg h hx
  by_cases hh : isHdr (x : Int)
  · rw [if_pos hh]
    rw [decide_eq_true hh] at HH
    have r1 : 1 ≤ decSize x ∧ decSize x ≤ 8192 := by
      have h3 := hh.2.2
      unfold hdrCheck at h3
      split at h3
      · exact absurd h3 (by decide)
      · omega
    clear hh
    generalize decSize x = sz at *
    generalize decRefs x = rf at *
    unfold lenOut
    rw [if_neg (by omega : ¬ (1 + sz < 1))]
    obtain ⟨y, hy⟩ : ∃ y, (k : Int) + 1 + sz = y := ⟨_, rfl⟩
    have hy1 : 0 ≤ y ∧ y ≤ 50000 := by omega
    by_cases hc : y > 32768
    · have d1 : decide (y > 32768) = true := decide_eq_true hc
      have d1' : decide (32768 < y) = true := decide_eq_true hc
      have e7 : (if 32768 - (k : Int) < 1 + sz then (7 : Int) else 0) = 7 := if_pos (by omega)
      rw [e7, if_neg (by decide)]
      clear e7
      go_enter Tryz.func192, Tryz.ntmps192
      (go_wp2_with fail; refine (HH.out).mono ?_; rintro e_ w_ ⟨he_, hw_⟩; subst he_; have hs_ := hw_.symm; clear hw_; subst hs_)
      go_wp2
      refine bodyPost_ret (results_tmp4 Tryz.results192 _ _ _) rfl ?_
      exact ⟨rfl, rfl⟩
    · have d1 : decide (y > 32768) = false := decide_eq_false hc
      have d1' : decide (32768 < y) = false := decide_eq_false hc
      have e7 : (if 32768 - (k : Int) < 1 + sz then (7 : Int) else 0) = 0 := if_neg (by omega)
      rw [e7, if_pos rfl]
      clear e7
      go_enter Tryz.func192, Tryz.ntmps192
      (go_wp2_with fail; refine (HH.out).mono ?_; rintro e_ w_ ⟨he_, hw_⟩; subst he_; have hs_ := hw_.symm; clear hw_; subst hs_)
      go_wp2
      refine bodyPost_ret (results_tmp4 Tryz.results192 _ _ _) rfl ?_
      exact ⟨rfl, rfl⟩
  · rw [if_neg hh, if_neg (by decide)]
    rw [decide_eq_false hh] at HH
    clear hh
    generalize decSize x = sz at *
    generalize decRefs x = rf at *
    go_enter Tryz.func192, Tryz.ntmps192
    (go_wp2_with fail; refine (HH.out).mono ?_; rintro e_ w_ ⟨he_, hw_⟩; subst he_; have hs_ := hw_.symm; clear hw_; subst hs_)
    go_wp2
    refine bodyPost_ret (results_tmp4 Tryz.results192 _ _ _) rfl ?_
    exact ⟨rfl, rfl⟩
set_option maxRecDepth 100000 in
theorem opM (h : MM l E w) (x : Int) : Calls Tryz.prog 98 #[.pointer (some ⟨l.m, 0, none⟩), .int .u64 x] w fun e w' => e = .returned (.tuple (owR E.W (gIx x) (onE E.W x))) ∧ w' = w := by
  have HO := hid (ckoM x w)
  unfold onE
  by_cases hc : wantO x = 0
  · rw [if_pos hc]
    rw [hc] at HO
    obtain ⟨q1, q2⟩ := wantO_ok hc
    obtain ⟨g1, g2, g3⟩ := gIx_of hc
    have HW := hid (wofM' x q1.1 (by have := q1.2; omega) w)
    have HP := hid (owM h g2)
    rw [show x - 65536 = ((2 * gIx x : Nat) : Int) by omega] at HW
    obtain ⟨a1, a2, a3, a4, ha⟩ : ∃ a1 a2 a3 a4, owR E.W (gIx x) (opW E.W (gIx x)) = #[a1, a2, a3, a4] := by
      unfold owR
      split <;> exact ⟨_, _, _, _, rfl⟩
    rw [ha] at HP ⊢
    generalize 2 * gIx x = k at *
    clear ha g1 g2 g3 q1 q2 hc h
    go_enter Tryz.func98, Tryz.ntmps98
    (go_wp2_with fail; refine (HO.out).mono ?_; rintro e_ w_ ⟨he_, hw_⟩; subst he_; have hs_ := hw_.symm; clear hw_; subst hs_)
    (go_wp2_with fail; refine (HW.out).mono ?_; rintro e_ w_ ⟨he_, hw_⟩; subst he_; have hs_ := hw_.symm; clear hw_; subst hs_)
    (go_wp2_with fail; refine (HP.out).mono ?_; rintro e_ w_ ⟨he_, hw_⟩; subst he_; have hs_ := hw_.symm; clear hw_; subst hs_)
    go_wp2
    refine bodyPost_ret (results_tmp4 Tryz.results98 _ _ _) rfl ?_
    exact ⟨rfl, rfl⟩
  · rw [if_neg hc]
    unfold owR
    rw [if_neg hc]
    generalize wantO x = c at *
    have dc : (c != 0) = true := by simpa using hc
    have dc' : (c == 0) = false := by simpa using hc
    clear h
    go_enter Tryz.func98, Tryz.ntmps98
    (go_wp2_with fail; refine (HO.out).mono ?_; rintro e_ w_ ⟨he_, hw_⟩; subst he_; have hs_ := hw_.symm; clear hw_; subst hs_)
    go_wp2
    refine bodyPost_ret (results_tmp4 Tryz.results98 _ _ _) rfl ?_
    exact ⟨rfl, rfl⟩
theorem bbM (b : Int) (w : World) : Calls Tryz.prog 115 #[.int .i64 b] w fun e w' => e = .returned (.bool (decide (b < 0 ∨ 64 ≤ b))) ∧ w' = w := by
  by_cases h1 : b < 0
  · have d1 : decide (b < 0) = true := decide_eq_true h1
    rw [decide_eq_true (Or.inl h1)]
    go_enter Tryz.func115, Tryz.ntmps115
    go_wp2
    go_ret
    exact ⟨rfl, rfl⟩
  · have d1 : decide (b < 0) = false := decide_eq_false h1
    by_cases h2 : 64 ≤ b
    · have d2 : decide (b ≥ 64) = true := decide_eq_true h2
      have d2' : decide (64 ≤ b) = true := decide_eq_true h2
      rw [decide_eq_true (Or.inr h2)]
      go_enter Tryz.func115, Tryz.ntmps115
      go_wp2
      go_ret
      exact ⟨rfl, rfl⟩
    · have d2 : decide (b ≥ 64) = false := decide_eq_false h2
      have d2' : decide (64 ≤ b) = false := decide_eq_false h2
      rw [decide_eq_false (by omega)]
      go_enter Tryz.func115, Tryz.ntmps115
      go_wp2
      go_ret
      exact ⟨rfl, rfl⟩
theorem blM (b : Int) (w : World) : Calls Tryz.prog 113 #[.int .i64 b] w fun e w' => e = .returned (.bool (decide (b < 0 ∨ 2048 ≤ b))) ∧ w' = w := by
  by_cases h1 : b < 0
  · have d1 : decide (b < 0) = true := decide_eq_true h1
    rw [decide_eq_true (Or.inl h1)]
    go_enter Tryz.func113, Tryz.ntmps113
    go_wp2
    go_ret
    exact ⟨rfl, rfl⟩
  · have d1 : decide (b < 0) = false := decide_eq_false h1
    by_cases h2 : 2048 ≤ b
    · have d2 : decide (b ≥ 2048) = true := decide_eq_true h2
      have d2' : decide (2048 ≤ b) = true := decide_eq_true h2
      rw [decide_eq_true (Or.inr h2)]
      go_enter Tryz.func113, Tryz.ntmps113
      go_wp2
      go_ret
      exact ⟨rfl, rfl⟩
    · have d2 : decide (b ≥ 2048) = false := decide_eq_false h2
      have d2' : decide (2048 ≤ b) = false := decide_eq_false h2
      rw [decide_eq_false (by omega)]
      go_enter Tryz.func113, Tryz.ntmps113
      go_wp2
      go_ret
      exact ⟨rfl, rfl⟩
def clM (n : Nat) : Int := if n = 32 then 0 else if n = 0 then 2 else 1
theorem claM (n : Nat) (w : World) : Calls Tryz.prog 117 #[.int .i64 (n : Int)] w fun e w' => e = .returned (.int .u8 (clM n)) ∧ w' = w := by
  unfold clM
  by_cases h1 : n = 32
  · have d1 : ((n : Int) == 32) = true := by simp; omega
    rw [if_pos h1]
    clear h1
    go_enter Tryz.func117, Tryz.ntmps117
    go_wp2
    go_ret
    exact ⟨rfl, rfl⟩
  · have d1 : ((n : Int) == 32) = false := by simp; omega
    rw [if_neg h1]
    by_cases h2 : n = 0
    · have d2 : ((n : Int) == 0) = true := by simp; omega
      rw [if_pos h2]
      clear h1 h2
      go_enter Tryz.func117, Tryz.ntmps117
      go_wp2
      go_ret
      exact ⟨rfl, rfl⟩
    · have d2 : ((n : Int) == 0) = false := by simp; omega
      rw [if_neg h2]
      clear h1 h2
      go_enter Tryz.func117, Tryz.ntmps117
      go_wp2
      go_ret
      exact ⟨rfl, rfl⟩
end
end Go.Proofs.Qxb6500887aGreat
