/- The barrier: applyIncrements. -/
import Derived.Test.Qxb6500888aBaP5
namespace Go.Proofs.Qxb6500888a
open Go.RowKit
set_option linter.unusedSimpArgs false
set_option linter.unusedVariables false

theorem exists_least {p : Nat → Prop} (h : ∃ n, p n) : ∃ n, p n ∧ ∀ m, p m → n ≤ m := by
  obtain ⟨n, hn⟩ := h
  induction n using Nat.strongRecOn with
  | ind n ih =>
    by_cases e : ∃ m, m < n ∧ p m
    · obtain ⟨m, h1, h2⟩ := e
      exact ih m h1 h2
    · exact ⟨n, hn, fun m hm => Nat.le_of_not_lt (fun hlt => e ⟨m, hlt, hm⟩)⟩
/-- The least number of a kind. -/
noncomputable def leastN (p : Nat → Prop) : Nat := by
  classical
  exact if h : ∃ n, p n then (exists_least h).choose else 0
theorem leastN_spec {p : Nat → Prop} (h : ∃ n, p n) : p (leastN p) := by
  unfold leastN
  rw [dif_pos h]
  exact (exists_least h).choose_spec.1
theorem leastN_le {p : Nat → Prop} {n : Nat} (h : p n) : leastN p ≤ n := by
  unfold leastN
  rw [dif_pos ⟨n, h⟩]
  exact (exists_least ⟨n, h⟩).choose_spec.2 n h
theorem countP_up {p q : Nat → Bool} {k : Nat} (hp : p k = false) (hq : q k = true) (h : ∀ i, i ≠ k → p i = q i) : ∀ N, k < N → (List.range N).countP q = (List.range N).countP p + 1
  | 0, hN => by omega
  | N + 1, hN => by
    rw [List.range_succ, List.countP_append, List.countP_append]
    by_cases e : k = N
    · subst e
      have : ∀ M, M ≤ k → (List.range M).countP q = (List.range M).countP p := by
        intro M hM
        induction M with
        | zero => rfl
        | succ M ih => rw [List.range_succ, List.countP_append, List.countP_append, ih (by omega)]; simp [h M (by omega)]
      rw [this k (Nat.le_refl _)]
      simp [hp, hq]
    · rw [countP_up hp hq h N (by omega)]
      simp [h N (fun e' => e e'.symm)]
      omega
theorem countP_same {p q : Nat → Bool} (h : ∀ i, p i = q i) (N : Nat) : (List.range N).countP q = (List.range N).countP p := by
  have : q = p := funext fun i => (h i).symm
  rw [this]
/-- How many of the heap's addresses have a count. -/
def nz (f : Nat → Nat) : Nat := (List.range 32768).countP fun i => decide (f (65536 + i) ≠ 0)
theorem nz_le (f : Nat → Nat) : nz f ≤ 32768 := by
  unfold nz
  have := List.countP_le_length (p := fun i => decide (f (65536 + i) ≠ 0)) (l := List.range 32768)
  rw [List.length_range] at this
  exact this
theorem nz_up {f : Nat → Nat} {o n : Nat} (h1 : 65536 ≤ o) (h2 : o < 98304) (h0 : f o = 0) (hn : n ≠ 0) : nz (fup f o n) = nz f + 1 := by
  have ho := offA_in h1
  refine countP_up (k := offA o) ?_ ?_ (fun i hi => ?_) 32768 (by omega)
  · rw [ho, h0]; rfl
  · rw [ho, fup_self]; exact decide_eq_true hn
  · rw [fup_ne _ _ (by omega)]
theorem nz_same {f : Nat → Nat} {o n : Nat} (h0 : f o ≠ 0) (hn : n ≠ 0) : nz (fup f o n) = nz f := by
  refine countP_same (fun i => ?_) 32768
  by_cases e : 65536 + i = o
  · rw [e, fup_self, decide_eq_true h0, decide_eq_true hn]
  · rw [fup_ne _ _ e]
theorem nz_inc {G : GS} {o : Nat} (h1 : 65536 ≤ o) (h2 : o < 98304) : nz (incG G o).cnt = nz G.cnt + (if G.cnt o = 0 then 1 else 0) := by
  show nz (if G.cnt o < 3 then fup G.cnt o (G.cnt o + 1) else G.cnt) = _
  by_cases h : G.cnt o < 3
  · rw [if_pos h]
    by_cases h0 : G.cnt o = 0
    · rw [if_pos h0, nz_up h1 h2 h0 (by omega)]
    · rw [if_neg h0, nz_same h0 (by omega), Nat.add_zero]
  · rw [if_neg h, if_neg (by omega), Nat.add_zero]
theorem GOk.inc {G : GS} (h : GOk G) (o : Nat) : GOk (incG G o) := by
  refine ⟨h.hd, h.wd, h.pd, fun a => ?_⟩
  show (if G.cnt o < 3 then fup G.cnt o (G.cnt o + 1) else G.cnt) a ≤ 3
  by_cases h1 : G.cnt o < 3
  · rw [if_pos h1]
    by_cases e : a = o
    · subst e; rw [fup_self]; omega
    · rw [fup_ne _ _ e]; exact h.ct a
  · rw [if_neg h1]; exact h.ct a
theorem mem_refP {G : GS} {a i x : Nat} (h : x ∈ refP G a i) : x ≠ 0 ∧ ∃ j, j < i ∧ x = G.word (offA a + 1 + j) := by
  unfold refP at h
  obtain ⟨h1, h2⟩ := List.mem_filter.1 h
  obtain ⟨j, hj, rfl⟩ := List.mem_map.1 h1
  exact ⟨of_decide_eq_true h2, j, List.mem_range.1 hj, rfl⟩
theorem GOk.refs {G : GS} (h : GOk G) {a : Nat} (h1 : 65536 ≤ a) (h2 : a < 98304) {x : Nat} (hx : x ∈ refL G a) : 65536 ≤ x ∧ x < 98304 := by
  obtain ⟨h0, j, hj, rfl⟩ := mem_refP hx
  have hs := h.sz h1 h2
  rcases h.wd (offA a + 1 + j) (by omega) with h3 | h3
  · exact absurd h3 h0
  · exact h3
/-- The increments under way: what holds of the plain state. -/
structure ApS (hv0 : Nat → List Nat) (C : Nat) (G : GS) (hv : Nat → List Nat) : Prop where
  ok : GOk G
  c : G.calls.length ≤ C
  b5 : (hv 5).length ≤ nz G.cnt
  b4 : (hv 4).length ≤ 8192 * nz G.cnt
  k : ∀ i, i ≠ 4 → i ≠ 5 → hv i = hv0 i
  r : ∀ o ∈ hv 4, 65536 ≤ o ∧ o < 98304
theorem ApS.step {hv0 : Nat → List Nat} {C : Nat} {G : GS} {hv : Nat → List Nat} (h : ApS hv0 C G hv) {o : Nat} (h1 : 65536 ≤ o) (h2 : o < 98304) : ApS hv0 (C + 1) (incG G o) (incH G hv o) := by
  have hn := nz_inc (G := G) h1 h2
  have hs := h.ok.sz h1 h2
  have hrl : (refL G o).length ≤ 8192 := by
    have := refP_len G o (rfOf G o)
    unfold refL
    omega
  unfold incH
  by_cases h0 : G.cnt o = 0
  · rw [if_pos h0] at hn ⊢
    refine ⟨h.ok.inc o, by show (G.calls ++ [_]).length ≤ _; have := h.c; simp; omega, ?_, ?_, fun i h4 h5 => ?_, fun x hx => ?_⟩
    · rw [hn, fup_ne _ _ (by decide)]
      unfold hput
      rw [fup_self]
      have := h.b5
      simp
      omega
    · rw [hn, fup_self, List.length_append]
      have := h.b4
      omega
    · rw [fup_ne _ _ h4]
      unfold hput
      rw [fup_ne _ _ h5]
      exact h.k i h4 h5
    · rw [fup_self] at hx
      rcases List.mem_append.1 hx with h3 | h3
      · exact h.r x h3
      · exact h.ok.refs h1 h2 h3
  · rw [if_neg h0, Nat.add_zero] at hn
    rw [if_neg h0]
    exact ⟨h.ok.inc o, by show (G.calls ++ [_]).length ≤ _; have := h.c; simp; omega, by rw [hn]; exact h.b5, by rw [hn]; exact h.b4, h.k, h.r⟩
def incP (p : GS × (Nat → List Nat)) (o : Nat) : GS × (Nat → List Nat) := (incG p.1 o, incH p.1 p.2 o)
def incs (p : GS × (Nat → List Nat)) (l : List Nat) : GS × (Nat → List Nat) := l.foldl incP p
theorem incs_s (p : GS × (Nat → List Nat)) (l : List Nat) (o : Nat) : incs p (l ++ [o]) = incP (incs p l) o := by
  unfold incs
  rw [List.foldl_append]
  rfl
theorem ApS.incs {hv0 : Nat → List Nat} : ∀ (l : List Nat) {C : Nat} {p : GS × (Nat → List Nat)}, ApS hv0 C p.1 p.2 → (∀ o ∈ l, 65536 ≤ o ∧ o < 98304) → ApS hv0 (C + l.length) (incs p l).1 (incs p l).2
  | [], C, p, h, _ => h
  | o :: l, C, p, h, hr => by
    have h1 := h.step (hr o (by simp)).1 (hr o (by simp)).2
    have h2 := ApS.incs l (p := incP p o) h1 (fun x hx => hr x (by simp [hx]))
    rw [List.length_cons, show C + (l.length + 1) = C + 1 + l.length by omega]
    exact h2
/-- The births' work list. -/
def births : Nat → Nat → GS × (Nat → List Nat) → GS × (Nat → List Nat)
  | 0, _, p => p
  | f + 1, k, p => if k < (p.2 4).length then births f (k + 1) (incP p ((p.2 4).getD k 0)) else p
/-- All the increments. -/
def applyP (p : GS × (Nat → List Nat)) : GS × (Nat → List Nat) := births 400000000 0 (incs (incs p (p.2 0)) (p.2 2))
section
variable {x : Nat} {w w' : World} {ρ ρ' : Rl} {L L' : GL} {T T' : BL} {hB : Nat} {V : Nat → Value} {G G' : GS} {B B' : BS} {hv : Nat → List Nat}
/-- The increments under way, in memory. -/
structure ApM (w : World) (ρ : Rl) (L : GL) (T : BL) (hB : Nat) (V : Nat → Value) (B : BS) (hv0 : Nat → List Nat) (C : Nat) (p : GS × (Nat → List Nat)) (L' : GL) (V' : Nat → Value) (ρ' : Rl) (wr : World) : Prop where
  pm : PMx 5 wr ρ' L' T hB V' p.1 B p.2
  sm : L.Same L'
  fr : Fr zX ρ w ρ' wr
  vk : ∀ i, i ≠ 4 → i ≠ 5 → V' i = V i
  ap : ApS hv0 C p.1 p.2
theorem ApM.inc {hv0 : Nat → List Nat} {C : Nat} {p : GS × (Nat → List Nat)} {V' : Nat → Value} {wr : World} (h : ApM w ρ L T hB V B hv0 C p L' V' ρ' wr) {o : Nat} (h1 : 65536 ≤ o) (h2 : o < 98304) (hC : C ≤ 1000000000000) (hl : ∀ i, (hv0 i).length ≤ 1000000000000) :
    Calls Try.prog 94 #[.pointer (some ⟨T.bB, 0, none⟩), .int .u64 (o : Int), .pointer (some ⟨hB, 0, none⟩)] wr fun e w' => e = .returned (.tuple #[]) ∧ ∃ L2 V2 ρ2, ApM w ρ L T hB V B hv0 (C + 1) (incP p o) L2 V2 ρ2 w' := by
  have hn := nz_le p.1.cnt
  refine (increment_walk h.pm h.ap.ok h1 h2 (Nat.le_trans h.ap.c hC) (fun i => ?_)).mono ?_
  · by_cases e4 : i = 4
    · subst e4; have := h.ap.b4; omega
    · by_cases e5 : i = 5
      · subst e5; have := h.ap.b5; omega
      · rw [h.ap.k i e4 e5]; exact hl i
  · rintro e w2 ⟨he, L2, V2, ρ2, g1, g2, g3, g4⟩
    exact ⟨he, L2, V2, ρ2, g2, h.sm.trans g1, h.fr.trans g3, fun i h4 h5 => (g4 i h4 h5).trans (h.vk i h4 h5), h.ap.step h1 h2⟩
/-- A list's element, wherever it lies. -/
theorem PMx.elem (h : PMx x w ρ L T hB V G B hv) {i : Nat} (hi : i < 8) {a : Option Addr} {n c : Nat} (hV : V i = .slice a n c) {k : Nat} (hk : k < (hv i).length) : ∃ g, a = some ⟨g, 0, none⟩ ∧ w.cell? ⟨g, k, none⟩ = some (.int .u64 (((hv i).getD k 0 : Nat) : Int)) := by
  obtain ⟨g, q, hv', hg, hc⟩ := (h.hm.rw i hi).get (by decide) (fun _ => rfl) (List.getElem?_eq_getElem hk)
  rw [hV] at hv'
  injection hv' with e1 _ _
  refine ⟨g, e1, ?_⟩
  have := hc 0 (by decide)
  rw [show k * rtA.n + 0 = k by show k * 1 + 0 = k; omega] at this
  rw [this]
  simp [rtA, List.getD, hk]
end
end Go.Proofs.Qxb6500888a
