/- A map from integers to true whose keys are a run f, .., c - 1. -/
import Derived.Test.Qxb6500887aMapB
import Derived.Maps.Views
namespace Go.Proofs.Qxb6500887a
open Go.Maps
set_option linter.unusedSimpArgs false
set_option linter.unusedVariables false

/-- The keys f ≤ z < c, each with true. -/
structure Keys (D : DataW Unit) (f c : Int) : Prop where
  tidy : Tidy D
  val : ∀ z : Int, D.atKey (.int .i64 z) (.lit (.bool false)) = .lit (.bool (decide (f ≤ z ∧ z < c)))
  size : (Maps.size D : Int) = c - f
  has : ∀ z : Int, Maps.has D (.int .i64 z) = decide (f ≤ z ∧ z < c)
  le : f ≤ c
theorem Keys.empty (f : Int) : Keys (.map []) f f := by
  have e : ∀ z : Int, ¬ (f ≤ z ∧ z < f) := fun z => by omega
  refine ⟨tidy_empty, fun z => ?_, by simp [size_eq], fun z => ?_, by omega⟩
  · rw [decide_eq_false (e z)]; rfl
  · rw [decide_eq_false (e z)]; rfl
theorem key_lit (z : Int) : WideAt.IsKeyLit (.int .i64 z) := by
  first | trivial | simp [WideAt.IsKeyLit] | exact ⟨_, _, rfl⟩
theorem Keys.again {D : DataW Unit} {f c z : Int} (h : Keys D f c) (h1 : f ≤ z) (h2 : z < c) : Keys (D.put (.int .i64 z) (.lit (.bool true))) f c := by
  refine ⟨h.tidy.put (key_lit z) _, fun y => ?_, ?_, fun y => ?_, h.le⟩
  · by_cases e : y = z
    · subst e
      rw [atKey_put_same h.tidy.isMap (key_lit y), decide_eq_true ⟨h1, h2⟩]
    · rw [atKey_put_other (by simpa using e), h.val]
  · rw [size_put h.tidy, h.has, decide_eq_true ⟨h1, h2⟩]
    exact h.size
  · by_cases e : y = z
    · subst e
      rw [has_put_same h.tidy.isMap (key_lit y), decide_eq_true ⟨h1, h2⟩]
    · rw [has_put_other (by simpa using e), h.has]
theorem Keys.next {D : DataW Unit} {f c : Int} (h : Keys D f c) : Keys (D.put (.int .i64 c) (.lit (.bool true))) f (c + 1) := by
  have hle := h.le
  refine ⟨h.tidy.put (key_lit c) _, fun y => ?_, ?_, fun y => ?_, by omega⟩
  · by_cases e : y = c
    · subst e
      rw [atKey_put_same h.tidy.isMap (key_lit y), decide_eq_true ⟨hle, by omega⟩]
    · rw [atKey_put_other (by simpa using e), h.val]
      have : (f ≤ y ∧ y < c) ↔ (f ≤ y ∧ y < c + 1) := by omega
      simp only [this]
  · rw [size_put h.tidy, h.has, decide_eq_false (by omega)]
    have := h.size
    simp
    omega
  · by_cases e : y = c
    · subst e
      rw [has_put_same h.tidy.isMap (key_lit y), decide_eq_true ⟨hle, by omega⟩]
    · rw [has_put_other (by simpa using e), h.has]
      have : (f ≤ y ∧ y < c) ↔ (f ≤ y ∧ y < c + 1) := by omega
      simp only [this]
end Go.Proofs.Qxb6500887a
