/- Rows of ints in new memory; maps keyed by int. -/
import Derived.Test.Qxb6500889aMuG2
import Derived.Test.Qxb6500889aMuR3
namespace Go.Proofs.Qxb6500889a
open Go.RowKit
set_option linter.unusedSimpArgs false
set_option linter.unusedVariables false
section
variable {w w' : World} {base : Nat} {v : Value} {xs ys : List Nat} {rm : Nat} {E : List IK.Ent}
theorem wpList_app_int {ops : Array Oper} {rest : List Oper} {o : Oper} {a : Act} {Q : Exit → Act → World → Prop} (hgd : o.guard = none) (s x : Operand)
    (ho : o.op = .call { callee := .builtin .append, args := #[s, x], argTypes := #[39, 39] }) (hs : a.eval s = v) (hown : w.ownsRow base 3 1 v xs.length (aK .i64 xs)) (ax : Option Addr) (n q : Nat) (hx : a.eval x = .slice ax n q) (hl : ys.length = n) (hm0 : ax = none → n = 0 ∧ q = 0) (hnews : ∀ ad, ax = some ad → ∀ j u, (aK .i64 ys)[j]? = some u → w.cell? (ad.add j) = some u) (hb : (xs.length + n) * 8 ≤ 140737488355328) (hbase : base ≤ w.heap.size)
    (h : ∀ v' w', w'.ownsRow base 3 1 v' (xs ++ ys).length (aK .i64 (xs ++ ys)) → Below base w w' → (∀ k, k < w.heap.size → (∀ g, v.ownBlock = some g → k ≠ g) → w'.heap[k]? = w.heap[k]?) → wpList Try.prog ops Q rest (a.put o.dst v') w') : wpList Try.prog ops Q (o :: rest) a w := by
  obtain ⟨i, hi, he⟩ := Option.map_eq_some_iff.1 info_int
  simp only [Prod.mk.injEq] at he
  refine wpList_append_row w hgd s x 39 ho base 3 i (.int .i64 0) 1 8 Try.underlying39 hi he.1 he.2.1 he.2.2 rfl (by decide) v xs.length (aK .i64 xs) hs hown ax n q (aK .i64 ys) hx (by simp [aK, hl]) hm0 hnews (aK_one .i64 ys) hb (by decide) hbase ?_
  intro v' w' k1 k2 k3 k4
  refine h v' w' ?_ k2 k3
  rw [List.length_append, hl]
  have e : aK .i64 (xs ++ ys) = aK .i64 xs ++ aK .i64 ys := by simp [aK]
  rw [e]
  exact k1
theorem ownI_shape (h : w.ownsRow base 3 1 v xs.length (aK .i64 xs)) : ∃ a k, v = .slice a xs.length k := by
  rcases h.2 with ⟨rfl, h0⟩ | ⟨g, cap, cur, rfl, _⟩
  · rw [h0]; exact ⟨none, 0, rfl⟩
  · exact ⟨_, _, rfl⟩
theorem ownI_pop {x : Nat} (h : w.ownsRow base 3 1 v (ys ++ [x]).length (aK .i64 (ys ++ [x]))) : ∃ g k, v = .slice (some ⟨g, 0, none⟩) (ys.length + 1) k ∧ ys.length + 1 ≤ k ∧ k ≤ maxLen ∧ w.cell? ⟨g, ys.length, none⟩ = some (.int .i64 (x : Int)) ∧ w.ownsRow base 3 1 (.slice (some ⟨g, 0, none⟩) ys.length k) ys.length (aK .i64 ys) := by
  rcases h.2 with ⟨h0, h1⟩ | ⟨g, cap, cur, he, h5, hg, hn, hc, hs, ht⟩
  · simp at h1
  · rw [List.length_append, List.length_singleton] at he hn ht
    refine ⟨g, cap, he, hn, hc, ?_, by simp [aK], .inr ⟨g, cap, cur, rfl, h5, hg, by omega, hc, hs, ?_⟩⟩
    · have e : (aK .i64 (ys ++ [x]))[ys.length]? = some (.int .i64 (x : Int)) := by unfold aK; simp
      rw [← ht, List.getElem?_take, if_pos (by omega)] at e
      simp [World.cell?, hg]
      simpa using e
    · have : aK .i64 ys = (aK .i64 (ys ++ [x])).take (ys.length * 1) := by
        unfold aK
        rw [List.map_append, List.take_append_of_le_length (by simp), List.take_of_length_le (by simp)]
      rw [this, ← ht, List.take_take]
      congr 1
      omega
theorem ownI_below (h : w.ownsRow base 3 1 v xs.length (aK .i64 xs)) (hb : Below w.heap.size w w') : w'.ownsRow base 3 1 v xs.length (aK .i64 xs) := by
  refine ⟨h.1, ?_⟩
  rcases h.2 with h2 | ⟨g, cap, cur, h1, h2, hg, h3⟩
  · exact .inl h2
  · exact .inr ⟨g, cap, cur, h1, h2, by rw [hb.block g (Array.getElem?_eq_some_iff.1 hg).1]; exact hg, h3⟩
theorem ownI_upd {n : Nat} {cs : List Value} {r : Nat} (h : w.ownsRow base 3 1 v n cs) (hu : Upd r w w') (hr : ∀ g, v.ownBlock = some g → g ≠ r) : w'.ownsRow base 3 1 v n cs := by
  refine ⟨h.1, ?_⟩
  rcases h.2 with h2 | ⟨g, cap, cur, h1, h2, hg, h3⟩
  · exact .inl h2
  · refine .inr ⟨g, cap, cur, h1, h2, ?_, h3⟩
    rw [hu.block g (Array.getElem?_eq_some_iff.1 hg).1 (hr g (by rw [h1]; rfl))]
    exact hg
theorem ownI_map {n : Nat} {cs : List Value} (h : w.ownsRow base 3 1 v n cs) (hp : IK.PN w rm E) : ∀ g, v.ownBlock = some g → g ≠ rm := by
  intro g hg e
  subst e
  rcases h.2 with ⟨h1, _⟩ | ⟨g', cap, cur, h1, h2, hg', h3⟩
  · rw [h1] at hg; cases hg
  · rw [h1] at hg
    cases hg
    obtain ⟨ck, k1, _⟩ := hp
    rw [k1] at hg'
    cases hg'
theorem IK.PN.mapN' (h : IK.PN w rm E) : mapN w rm = E.length := by
  obtain ⟨ck, h1, _⟩ := h
  unfold mapN
  rw [h1]
  simp
end
theorem cT_mono (p : Nat → Bool) {j : Nat} : ∀ {k : Nat}, j ≤ k → cT p j ≤ cT p k
  | 0, h => by rw [Nat.le_zero.1 h]; exact Nat.le_refl _
  | k + 1, h => by
    by_cases e : j = k + 1
    · rw [e]; exact Nat.le_refl _
    · have := cT_mono p (k := k) (show j ≤ k by omega)
      show _ ≤ cT p k + _
      omega
def slA : Value → Option Addr
  | .slice a _ _ => a
  | _ => none
def slK : Value → Nat
  | .slice _ _ k => k
  | _ => 0
theorem rows_of {w : World} {σ : Rl} {N : ML} {M : MS} (h : MN w σ N M) : ∃ (ra : Nat → Option Addr) (rk : Nat → Nat), ∀ m, m < 4 → N.rv m = .slice (ra m) (M.roots m).length (rk m) :=
  ⟨fun m => slA (N.rv m), fun m => slK (N.rv m), fun m hm => by
    obtain ⟨a, k, e⟩ := (h.pt.rt m hm).shape
    simp only [e, slA, slK]⟩
def catM (M : MS) : Nat → List Nat
  | 0 => []
  | k + 1 => catM M k ++ M.roots k
theorem catM_mem (M : MS) {a : Nat} : ∀ k, a ∈ catM M k ↔ ∃ m, m < k ∧ a ∈ M.roots m
  | 0 => ⟨fun h => (by cases h), fun ⟨m, h, _⟩ => (by omega)⟩
  | k + 1 => by
    unfold catM
    rw [List.mem_append, catM_mem M k]
    refine ⟨fun h => ?_, fun ⟨m, h1, h2⟩ => ?_⟩
    · rcases h with ⟨m, h1, h2⟩ | h
      · exact ⟨m, by omega, h2⟩
      · exact ⟨k, by omega, h⟩
    · by_cases e : m = k
      · right; rw [← e]; exact h2
      · left; exact ⟨m, by omega, h2⟩
/-- The stack of ids, and the map of those reached, in new memory. -/
structure TI (w0 : World) (rm : Nat) (E : List IK.Ent) (v : Value) (ys : List Nat) (wr : World) : Prop where
  bel : Below w0.heap.size w0 wr
  own : wr.ownsRow w0.heap.size 3 1 v ys.length (aK .i64 ys)
  pn : IK.PN wr rm E
  vt : ∀ e ∈ E, e.v = .bool true
end Go.Proofs.Qxb6500889a
