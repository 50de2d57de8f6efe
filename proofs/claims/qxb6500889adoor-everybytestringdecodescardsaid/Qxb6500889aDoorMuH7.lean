/- The heap: Reachable. -/
import Derived.Test.Qxb6500889aDoorMuH6
namespace Go.Proofs.Qxb6500889aDoor
open Go.RowKit
set_option linter.unusedSimpArgs false
set_option linter.unusedVariables false

/-- Reached from the roots. -/
inductive Rr (H : HS) : Nat → Prop
  | root (m a : Nat) : m < 4 → a ∈ H.roots m → a ≠ 0 → Rr H a
  | ref (b a : Nat) (x : Ob) : Rr H b → H.objs b = some x → a ∈ x.refs → a ≠ 0 → Rr H a
def catR (H : HS) : Nat → List Nat
  | 0 => []
  | k + 1 => catR H k ++ H.roots k
theorem catR_mem (H : HS) {a : Nat} : ∀ k, a ∈ catR H k ↔ ∃ m, m < k ∧ a ∈ H.roots m
  | 0 => by simp [catR]
  | k + 1 => by
    rw [catR, List.mem_append, catR_mem H k]
    constructor
    · rintro (⟨m, h1, h2⟩ | h)
      · exact ⟨m, by omega, h2⟩
      · exact ⟨k, by omega, h⟩
    · rintro ⟨m, h1, h2⟩
      by_cases hm : m = k
      · subst hm; exact .inr h2
      · exact .inl ⟨m, by omega, h2⟩
theorem catR_len (H : HS) (h : ∀ m, m < 4 → (H.roots m).length ≤ 64) : ∀ k, k ≤ 4 → (catR H k).length ≤ 64 * k
  | 0, _ => by simp [catR]
  | k + 1, hk => by
    rw [catR, List.length_append]
    have := catR_len H h k (by omega)
    have := h k (by omega)
    omega
theorem nodup_bound : ∀ (N : Nat) (l : List Nat), l.Nodup → (∀ x ∈ l, x < N) → l.length ≤ N
  | 0, l, _, h => by
    cases l with
    | nil => simp
    | cons x t => have := h x (by simp); omega
  | N + 1, l, hn, h => by
    have h1 := nodup_bound N (l.filter fun x => decide (x ≠ N)) (hn.sublist List.filter_sublist) (fun x hx => by
      obtain ⟨g1, g2⟩ := List.mem_filter.1 hx
      have := h x g1
      have := of_decide_eq_true g2
      omega)
    have h2 : ∀ (l : List Nat), l.Nodup → l.length ≤ (l.filter fun x => decide (x ≠ N)).length + 1 := by
      intro l
      induction l with
      | nil => intro _; simp
      | cons x t ih =>
        intro hn
        rw [List.nodup_cons] at hn
        rw [List.filter_cons]
        by_cases hx : x = N
        · subst hx
          rw [if_neg (by simp)]
          have : t.filter (fun y => decide (y ≠ x)) = t := List.filter_eq_self.2 (fun y hy => decide_eq_true (fun e => hn.1 (by rw [← e]; exact hy)))
          rw [this]
          simp
        · rw [if_pos (decide_eq_true hx), List.length_cons, List.length_cons]
          have := ih hn.2
          omega
    have := h2 l hn
    omega
section
variable {w w' : World} {ρ ρ' : Rl} {L : HL} {H : HS}
theorem RowA.src {c : Nat} {ax : Option Addr} {n k : Nat} {xs : List Nat} (h : RowA w ρ c (.slice ax n k) xs) : (∀ ad, ax = some ad → ∀ j u, (aC xs)[j]? = some u → w.cell? (ad.add j) = some u) ∧ (ax = none → n = 0 ∧ k = 0) ∧ xs.length = n := by
  rcases h.own.2 with ⟨h0, h1⟩ | ⟨g, cap, cur, he, _, hg, hn, hc, hs, ht⟩
  · injection h0 with e1 e2 e3
    subst e1 e2 e3
    exact ⟨fun ad had => (by cases had), fun _ => ⟨rfl, rfl⟩, h1⟩
  · injection he with e1 e2 e3
    subst e1 e2 e3
    refine ⟨fun ad had j u hu => ?_, fun h => (by cases h), rfl⟩
    cases had
    exact h.own.cells rfl j u hu
theorem own_shape {base : Nat} {v : Value} {xs : List Nat} (h : w.ownsRow base 50 1 v xs.length (aC xs)) : ∃ a k, v = .slice a xs.length k := by
  rcases h.2 with ⟨rfl, h0⟩ | ⟨g, cap, cur, rfl, _⟩
  · rw [h0]; exact ⟨none, 0, rfl⟩
  · exact ⟨_, _, rfl⟩
theorem own_pop {base : Nat} {v : Value} {ys : List Nat} {x : Nat} (h : w.ownsRow base 50 1 v (ys ++ [x]).length (aC (ys ++ [x]))) : ∃ g k, v = .slice (some ⟨g, 0, none⟩) (ys.length + 1) k ∧ ys.length + 1 ≤ k ∧ k ≤ maxLen ∧ w.cell? ⟨g, ys.length, none⟩ = some (.int .u64 (x : Int)) ∧ w.ownsRow base 50 1 (.slice (some ⟨g, 0, none⟩) ys.length k) ys.length (aC ys) := by
  rcases h.2 with ⟨h0, h1⟩ | ⟨g, cap, cur, he, h5, hg, hn, hc, hs, ht⟩
  · simp at h1
  · rw [List.length_append, List.length_singleton] at he hn ht
    refine ⟨g, cap, he, hn, hc, ?_, by simp [aC], .inr ⟨g, cap, cur, rfl, h5, hg, by omega, hc, hs, ?_⟩⟩
    · have e : (aC (ys ++ [x]))[ys.length]? = some (.int .u64 (x : Int)) := aC_get (by simp)
      rw [← ht, List.getElem?_take, if_pos (by omega)] at e
      simp [World.cell?, hg]
      simpa using e
    · have e : aC ys = (aC (ys ++ [x])).take ys.length := by simp [aC]
      rw [e, ← ht, List.take_take]
      congr 1
      omega
theorem own_upd {base r : Nat} {v : Value} {n : Nat} {xs : List Value} (h : w.ownsRow base 50 1 v n xs) (hu : Upd r w w') (hr : r < base) : w'.ownsRow base 50 1 v n xs := by
  refine ⟨h.1, ?_⟩
  rcases h.2 with h2 | ⟨g, cap, cur, h1, h2, hg, h3⟩
  · exact .inl h2
  · refine .inr ⟨g, cap, cur, h1, h2, ?_, h3⟩
    rw [hu.block g (Array.getElem?_eq_some_iff.1 hg).1 (by omega)]
    exact hg
def sliceN : Value → Nat
  | .slice _ n _ => n
  | _ => 0
/-- While the reachable are gathered. -/
structure RcS (w : World) (r : Nat) (v : Value) (xs : List Nat) (E : List Ent) (wr : World) : Prop where
  bel : Below w.heap.size w wr
  pn : PN wr r E
  vt : ∀ e ∈ E, e.v = .bool true
  own : wr.ownsRow (r + 1) 50 1 v xs.length (aC xs)
  wr' : w.heap.size = r
/-- What Reachable has found so far. -/
structure RcP (H : HS) (xs : List Nat) (E : List Ent) : Prop where
  sE : ∀ e ∈ E, Rr H e.k
  sX : ∀ a ∈ xs, a = 0 ∨ Rr H a
  cR : ∀ m a, m < 4 → a ∈ H.roots m → a = 0 ∨ a ∈ xs ∨ ∃ e ∈ E, e.k = a
  cF : ∀ e ∈ E, ∀ x, H.objs e.k = some x → ∀ a ∈ x.refs, a = 0 ∨ a ∈ xs ∨ ∃ e' ∈ E, e'.k = a
theorem RcP.done {E : List Ent} (h : RcP H [] E) : ∀ a, (∃ e ∈ E, e.k = a) ↔ Rr H a := by
  intro a
  constructor
  · rintro ⟨e, he, rfl⟩; exact h.sE e he
  · intro hr
    induction hr with
    | root m a hm ha h0 =>
      rcases h.cR m a hm ha with h1 | h1 | h1
      · exact absurd h1 h0
      · cases h1
      · exact h1
    | ref b a x _ hx ha h0 ih =>
      obtain ⟨e, he, rfl⟩ := ih
      rcases h.cF e he x hx a ha with h1 | h1 | h1
      · exact absurd h1 h0
      · cases h1
      · exact h1
theorem RcP.drop {ys : List Nat} {x : Nat} {E : List Ent} (h : RcP H (ys ++ [x]) E) (hx : x = 0 ∨ ∃ e ∈ E, e.k = x) : RcP H ys E := by
  refine ⟨h.sE, fun a ha => h.sX a (by simp [ha]), fun m a hm ha => ?_, fun e he o ho a ha => ?_⟩
  · rcases h.cR m a hm ha with h1 | h1 | h1
    · exact .inl h1
    · rcases List.mem_append.1 h1 with h2 | h2
      · exact .inr (.inl h2)
      · simp at h2; subst h2
        rcases hx with h3 | h3
        · exact .inl h3
        · exact .inr (.inr h3)
    · exact .inr (.inr h1)
  · rcases h.cF e he o ho a ha with h1 | h1 | h1
    · exact .inl h1
    · rcases List.mem_append.1 h1 with h2 | h2
      · exact .inr (.inl h2)
      · simp at h2; subst h2
        rcases hx with h3 | h3
        · exact .inl h3
        · exact .inr (.inr h3)
    · exact .inr (.inr h1)
theorem RcP.take {ys : List Nat} {x b : Nat} {v : Value} {E : List Ent} {o : Ob} (h : RcP H (ys ++ [x]) E) (h0 : x ≠ 0) (ho : H.objs x = some o) : RcP H (ys ++ o.refs) (E ++ [⟨x, v, b⟩]) := by
  have hr : Rr H x := by
    rcases h.sX x (by simp) with h1 | h1
    · exact absurd h1 h0
    · exact h1
  have hin : ∀ a, a ∈ ys ++ [x] → a = 0 ∨ a ∈ ys ++ o.refs ∨ ∃ e ∈ E ++ [⟨x, v, b⟩], e.k = a := fun a ha => by
    rcases List.mem_append.1 ha with h2 | h2
    · exact .inr (.inl (List.mem_append.2 (.inl h2)))
    · simp at h2; subst h2
      exact .inr (.inr ⟨⟨a, v, b⟩, by simp, rfl⟩)
  have hE : ∀ a, (∃ e ∈ E, e.k = a) → ∃ e ∈ E ++ [⟨x, v, b⟩], e.k = a := fun a ⟨e, he, hk⟩ => ⟨e, by simp [he], hk⟩
  refine ⟨fun e he => ?_, fun a ha => ?_, fun m a hm ha => ?_, fun e he y hy a ha => ?_⟩
  · rcases List.mem_append.1 he with h1 | h1
    · exact h.sE e h1
    · simp at h1; subst h1; exact hr
  · rcases List.mem_append.1 ha with h1 | h1
    · exact h.sX a (by simp [h1])
    · by_cases ha0 : a = 0
      · exact .inl ha0
      · exact .inr (.ref x a o hr ho h1 ha0)
  · rcases h.cR m a hm ha with h1 | h1 | h1
    · exact .inl h1
    · exact hin a h1
    · exact .inr (.inr (hE a h1))
  · rcases List.mem_append.1 he with h1 | h1
    · rcases h.cF e h1 y hy a ha with h2 | h2 | h2
      · exact .inl h2
      · exact hin a h2
      · exact .inr (.inr (hE a h2))
    · simp at h1; subst h1
      have hy' : H.objs x = some y := hy
      rw [ho] at hy'
      cases hy'
      exact .inr (.inl (List.mem_append.2 (.inr ha)))
end
end Go.Proofs.Qxb6500889aDoor
