/- A region that draws its order: n operations that leave a class of worlds alone, then a tail that waits for all. -/
import Derived.Test.Qxb6500890aDoorLast2
namespace Go.Proofs.Qxb6500890aDoor
open Go.RowKit
set_option linter.unusedSimpArgs false
set_option linter.unusedVariables false

theorem wp_region_class_tail {P : Program} {X : Type} (W : X → World) (n : Nat) {id : Nat} {Q : Exit → Act → World → Prop} {a : Act} {w : World} {L : List Oper} (hm : P.follows .mixedOrders = true)
    (hB : Region.lexB .any (L.take n).toArray = true) (hT : tailB (L.take n) (L.drop n) = true) (h0 : ∃ x, w.drew = W x)
    (h : wpQuiet P (L.take n).toArray (fun w' => ∃ x, w' = W x) (fun a' => ∀ x, wpList P L.toArray Q (L.drop n) a' (W x)) (L.take n) a) : (Code.region id L.toArray true).wp P Q a w := by
  obtain ⟨l, hl⟩ : ∃ l, L.take n = l := ⟨_, rfl⟩
  obtain ⟨r, hr⟩ : ∃ r, L.drop n = r := ⟨_, rfl⟩
  have hL : L = l ++ r := by rw [← hl, ← hr]; simp
  rw [hl] at hB hT h
  rw [hr] at hT h
  subst hL
  clear hl hr
  simp only [Region.lexB, Bool.and_eq_true] at hB
  have h1 := wpAnyQ_lex (C := fun w' => ∃ x, w' = W x) (md := .any) hB.1 l 0 (Array.replicate l.length false) a (by simp) (by simpa using hB.2) h
  have h2 := wpAny_of_quiet (Q' := QT P l r Q) (fun a' w' ⟨x, hx⟩ hq => by subst hx; exact QT_normal r l hT (hq x)) l.length (Array.replicate l.length false) a w.drew h0 h1
  have h3 := wpAny_tail r l (Q := Q) l.length (Array.replicate l.length false) a w.drew hT (by simp) h2
  refine wp_region_any hm ?_
  have e1 : (l ++ r).toArray.size = l.length + r.length := by simp
  have e2 : Array.replicate l.length false ++ Array.replicate r.length false = Array.replicate (l.length + r.length) false := by
    apply Array.ext'
    simp only [Array.toList_append, Array.toList_replicate]
    refine List.eq_replicate_iff.2 ⟨by simp, fun b hb => ?_⟩
    rcases List.mem_append.1 hb with h | h
    · exact (List.mem_replicate.1 h).2
    · exact (List.mem_replicate.1 h).2
  rw [e1, ← e2]
  exact h3
end Go.Proofs.Qxb6500890aDoor
