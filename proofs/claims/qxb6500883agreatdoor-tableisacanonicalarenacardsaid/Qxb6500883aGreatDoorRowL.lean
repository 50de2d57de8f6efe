/- Rows that a call owns itself: they lie above its world's blocks. Nothing here speaks of one program. -/
import Derived.Test.Qxb6500883aGreatDoorRowX
namespace Go.Proofs.Qxb6500883aGreatDoor
open Go.RowKit
set_option linter.unusedSimpArgs false
set_option linter.unusedVariables false

/-- A row of one's own, at or above block n0. -/
def OwR {α : Type} (K : RK α) (n0 : Nat) (w : World) (v : Value) (xs : List α) : Prop := w.ownsRow n0 K.t K.n v xs.length (xs.flatMap K.f)
/-- What an append to v leaves as it was. -/
structure Kep (w : World) (v : Value) (w' : World) : Prop where
  os : w'.os = w.os
  tape : w'.tape = w.tape
  output : w'.output = w.output
  size : w.heap.size ≤ w'.heap.size
  blk : ∀ k, k < w.heap.size → (∀ g, v.ownBlock = some g → k ≠ g) → w'.heap[k]? = w.heap[k]?
section
variable {α : Type} {P : Program} {K : RK α} {w w' : World} {n0 : Nat} {v v' : Value} {xs ys : List α}
theorem OwR.rx (h : OwR K n0 w v xs) : RowX K w (fun _ => 0) 0 v xs := by
  refine ⟨⟨h.1, ?_⟩, fun g hg => rfl⟩
  rcases h.2 with h1 | ⟨g, cap, cur, h1, h2, h3⟩
  · exact .inl h1
  · exact .inr ⟨g, cap, cur, h1, Nat.zero_le _, h3⟩
theorem OwR.hi (h : OwR K n0 w v xs) : ∀ g, v.ownBlock = some g → n0 ≤ g := fun g hg => by
  rcases h.2 with ⟨h1, _⟩ | ⟨g', cap, cur, h1, h2, h3⟩
  · rw [h1] at hg; cases hg
  · rw [h1] at hg; cases hg; exact h2
theorem OwR.lt (h : OwR K n0 w v xs) : ∀ g, v.ownBlock = some g → g < w.heap.size := fun g hg => by
  rcases h.2 with ⟨h1, _⟩ | ⟨g', cap, cur, h1, h2, h3, _⟩
  · rw [h1] at hg; cases hg
  · rw [h1] at hg; cases hg; exact (Array.getElem?_eq_some_iff.1 h3).1
theorem OwR.mono {n1 : Nat} (h : OwR K n0 w v xs) (hn : n1 ≤ n0) : OwR K n1 w v xs := by
  refine ⟨h.1, ?_⟩
  rcases h.2 with h1 | ⟨g, cap, cur, h1, h2, h3⟩
  · exact .inl h1
  · exact .inr ⟨g, cap, cur, h1, Nat.le_trans hn h2, h3⟩
theorem OwR.of (h : OwR K n0 w v xs) (hb : ∀ g, v.ownBlock = some g → g < w.heap.size → w'.heap[g]? = w.heap[g]?) : OwR K n0 w' v xs := by
  refine ⟨h.1, ?_⟩
  rcases h.2 with h1 | ⟨g, cap, cur, h1, h2, h3, h4⟩
  · exact .inl h1
  · refine .inr ⟨g, cap, cur, h1, h2, ?_, h4⟩
    rw [hb g (by rw [h1]; rfl) (Array.getElem?_eq_some_iff.1 h3).1]
    exact h3
theorem OwR.below (h : OwR K n0 w v xs) (hb : Below w.heap.size w w') : OwR K n0 w' v xs := h.of (fun g _ hg => hb.block g hg)
theorem OwR.upd {g : Nat} (h : OwR K n0 w v xs) (hu : Upd g w w') (hne : ∀ k, v.ownBlock = some k → k ≠ g) : OwR K n0 w' v xs := h.of (fun k hk hk2 => hu.block k hk2 (hne k hk))
theorem OwR.nil (K : RK α) (n0 : Nat) (w : World) : OwR K n0 w (.slice none 0 0) [] := ⟨by simp, .inl ⟨rfl, rfl⟩⟩
theorem OwR.shape (h : OwR K n0 w v xs) : ∃ a q, v = .slice a xs.length q := h.rx.shape
/-- A block of another type is not the row's. -/
theorem OwR.ne {g : Nat} {t : TypeId} {cs : List Value} (h : OwR K n0 w v xs) (hb : Blk w g t cs) (ht : t ≠ K.t) : ∀ k, v.ownBlock = some k → k ≠ g := fun k hk e => by
  subst e
  rcases h.2 with ⟨h1, _⟩ | ⟨g', cap, cur, h1, h2, h3, _⟩
  · rw [h1] at hk; cases hk
  · rw [h1] at hk
    cases hk
    rw [show w.heap[g']? = some (.cells cs.toArray t (0, 0)) from hb] at h3
    cases h3
    exact ht rfl
theorem Kep.below (h : Kep w v w') (hn : ∀ g, v.ownBlock = some g → n0 ≤ g) (h0 : n0 ≤ w.heap.size) : Below n0 w w' := ⟨h.os, h.tape, h.output, h.size, fun k hk => h.blk k (by omega) (fun g hg e => by have := hn g hg; omega)⟩
theorem Kep.keep {g : Nat} {t : TypeId} {cs : List Value} (h : Kep w v w') (hb : Blk w g t cs) (hne : ∀ k, v.ownBlock = some k → k ≠ g) : Blk w' g t cs := hb.of (h.blk g hb.lt (fun k hk => (hne k hk).symm))
/-- Elements appended to a row of one's own. -/
theorem wpList_app_l {ops : Array Oper} {rest : List Oper} {o : Oper} {a : Act} {Q : Exit → Act → World → Prop} (hK : RKok P K) (hgd : o.guard = none) (s x : Operand) (hA : OwR K n0 w v xs)
    (ho : o.op = .call { callee := .builtin .append, args := #[s, x], argTypes := #[K.s, K.s] })
    (ys : List α) (hs : a.eval s = v) (ax : Option Addr) (n k : Nat) (hx : a.eval x = .slice ax n k) (hm : ys.length = n) (hm0 : ax = none → n = 0 ∧ k = 0)
    (hnews : ∀ ad, ax = some ad → ∀ j u, (ys.flatMap K.f)[j]? = some u → w.cell? (ad.add j) = some u) (hb : (xs.length + n) * K.b ≤ 140737488355328) (h0 : n0 ≤ w.heap.size)
    (h : ∀ v' w', Hid (OwR K n0 w' v' (xs ++ ys)) → Hid (Kep w v w') → (∀ g, v'.ownBlock = some g → v.ownBlock = some g ∨ w.heap.size ≤ g) → wpList P ops Q rest (a.put o.dst v') w') : wpList P ops Q (o :: rest) a w := by
  obtain ⟨i0, z0, hi, hz0, hz1, hz2, hz3⟩ := hK.info
  subst hm
  refine wpList_append_row w hgd s x K.s ho n0 K.t i0 z0 K.n K.b hK.un hi hz0 hz1 hz2 hz3 hK.pos v xs.length (xs.flatMap K.f) hs hA ax ys.length k (ys.flatMap K.f) hx (hK.len' ys) hm0 hnews (hK.one' ys) hb hK.bpos h0 ?_
  intro v' w' h1 h2 h3 h4
  refine h v' w' (hid ?_) (hid ⟨h2.os, h2.tape, h2.output, h2.size, h3⟩) (fun g hg => ?_)
  · unfold OwR
    rw [List.length_append, List.flatMap_append]
    exact h1
  · rcases h4 g hg with h5 | h5
    · exact .inl h5
    · exact .inr (by omega)
end
end Go.Proofs.Qxb6500883aGreatDoor
