/- Rows: an element written in place; rows made with room. Nothing here speaks of one program. -/
import Derived.Test.Qxb6500883aGreatDoorRowX
namespace Go.Proofs.Qxb6500883aGreatDoor
open Go.RowKit
set_option linter.unusedSimpArgs false
set_option linter.unusedVariables false
section
variable {α : Type} {P : Program} {K : RK α} {w w' : World} {ρ ρ' : Rl} {c : Nat} {v v' : Value} {xs ys : List α}
theorem flatMap_set (hp : 0 < K.n) (hl : ∀ x, (K.f x).length = K.n) {i j : Nat} {x x' : α} {u : Value} (hx : xs[i]? = some x) (hj : j < K.n) (he : K.f x' = (K.f x).set j u) : (xs.set i x').flatMap K.f = (xs.flatMap K.f).set (i * K.n + j) u := by
  apply List.ext_getElem?
  intro m
  have hi := (List.getElem?_eq_some_iff.1 hx).1
  rw [getElem?_flatMap_const hp _ (fun x _ => hl x)]
  have hdm : m = m / K.n * K.n + m % K.n := by rw [Nat.mul_comm]; exact (Nat.div_add_mod m K.n).symm
  by_cases hm : m / K.n = i
  · rw [hm, List.getElem?_set_self hi]
    show (K.f x')[m % K.n]? = _
    rw [he]
    by_cases hj2 : m % K.n = j
    · rw [hj2, List.getElem?_set_self (by rw [hl]; exact hj)]
      have hmm : m = i * K.n + j := by rw [← hm, ← hj2]; exact hdm
      rw [hmm, List.getElem?_set_self]
      rw [length_flatMap_const xs (fun x _ => hl x)]
      have : (i + 1) * K.n ≤ xs.length * K.n := Nat.mul_le_mul_right _ hi
      rw [Nat.add_mul, Nat.one_mul] at this
      omega
    · rw [List.getElem?_set_ne (fun e => hj2 e.symm), List.getElem?_set_ne, getElem?_flatMap_const hp _ (fun x _ => hl x), hm, hx]
      · rfl
      · intro e
        apply hj2
        rw [← e, Nat.add_comm, Nat.add_mul_mod_self_right, Nat.mod_eq_of_lt hj]
  · rw [List.getElem?_set_ne (fun e => hm e.symm), List.getElem?_set_ne, getElem?_flatMap_const hp _ (fun x _ => hl x)]
    intro e
    apply hm
    rw [← e, Nat.add_comm, Nat.add_mul_div_right _ _ hp, Nat.div_eq_of_lt hj]
    omega
/-- A cell of an element is written. -/
theorem RowX.put (h : RowX K w ρ c v xs) (hp : 0 < K.n) (hl : ∀ x, (K.f x).length = K.n) {g q k i j : Nat} (hv : v = .slice (some ⟨g, 0, none⟩) k q) {x x' : α} {u : Value} (hx : xs[i]? = some x) (hj : j < K.n) (he : K.f x' = (K.f x).set j u) : RowX K (w.setCell ⟨g, i * K.n + j, none⟩ u) ρ c v (xs.set i x') ∧ ρ g = c ∧ w.frozen? ⟨g, i * K.n + j, none⟩ = false := by
  have hi := (List.getElem?_eq_some_iff.1 hx).1
  obtain ⟨⟨h3, h4⟩, hr⟩ := h
  subst hv
  rcases h4 with ⟨h5, h6⟩ | ⟨g2, cap, cur, he2, h5, hg, hn, hc, hs, ht⟩
  · cases h5
  · injection he2 with e1 e2 e3
    injection e1 with e1
    injection e1 with e1
    subst e1 e2 e3
    have hgc := hr g rfl
    have hlen : (xs.flatMap K.f).length = xs.length * K.n := length_flatMap_const xs (fun x _ => hl x)
    have hlt : i * K.n + j < xs.length * K.n := by
      have : (i + 1) * K.n ≤ xs.length * K.n := Nat.mul_le_mul_right _ hi
      rw [Nat.add_mul, Nat.one_mul] at this
      omega
    have hb : Blk w g K.t cur.toList := hg
    have hb2 := hb.set (i * K.n + j) u
    refine ⟨⟨⟨by rw [length_flatMap_const _ (fun x _ => hl x)], .inr ⟨g, q, (cur.toList.set (i * K.n + j) u).toArray, by rw [List.length_set], h5, hb2, by rw [List.length_set]; exact hn, hc, ?_, ?_⟩⟩, fun g' hg' => hr g' hg'⟩, hgc, hb.frozen _⟩
    · simpa using hs
    · rw [List.length_set, flatMap_set hp hl hx hj he, ← ht]
      exact List.take_set
/-- A row made with room: no elements yet, or all of them. -/
theorem RowX.made {g n k : Nat} {cs : List Value} (hb : Blk w g K.t cs) (hp : 0 < K.n) (hl : ∀ x, (K.f x).length = K.n) (hn : cs.length = n * K.n) (hm : n ≤ maxLen) (hk : xs.length = k) (hk2 : k ≤ n) (hx : xs.flatMap K.f = cs.take (k * K.n)) (hr : ρ g = c) : RowX K w ρ c (.slice (some ⟨g, 0, none⟩) k n) xs := by
  subst hk
  refine ⟨⟨by rw [length_flatMap_const _ (fun x _ => hl x)], .inr ⟨g, n, cs.toArray, rfl, Nat.zero_le _, hb, hk2, hm, ?_, ?_⟩⟩, fun g' hg' => by cases hg'; exact hr⟩
  · simp [hn]
  · rw [hx]
end
end Go.Proofs.Qxb6500883aGreatDoor
