/- Diff: the plain law. -/
import Derived.Test.Qxb6500884aClCmp
namespace Go.Proofs.Qxb6500884a
open Go.RowKit
set_option linter.unusedSimpArgs false
set_option linter.unusedVariables false

/-- ol is what the first k intervals of c hold beside d. -/
structure DI (c d : List (Int × Int)) (k j : Nat) (ol : List (Int × Int)) : Prop where
  nrm : Nrm ol
  mem : ∀ x, memB ol x = (memB (c.take k) x && !memB d x)
  gap : ∀ p ∈ ol, ∀ q, c[k]? = some q → p.2 + 1 < q.1
  skip : ∀ (j' : Nat) (p q : Int × Int), j' < j → d[j']? = some p → c[k]? = some q → p.2 < q.1
theorem DI.zero (c d : List (Int × Int)) : DI c d 0 0 [] := ⟨nrm_nil, fun x => by simp [memB], fun p hp => (by cases hp), fun j' p q h => by omega⟩
/-- j stepped over one more interval that ends before c[k]. -/
theorem DI.over {c d ol : List (Int × Int)} {k j : Nat} {r p : Int × Int} (h : DI c d k j ol) (hr : c[k]? = some r) (hp : d[j]? = some p) (hlt : p.2 < r.1) : DI c d k (j + 1) ol :=
  ⟨h.nrm, h.mem, h.gap, fun j' p' q h1 h2 h3 => by
    rcases Nat.lt_or_ge j' j with h4 | h4
    · exact h.skip j' p' q h4 h2 h3
    · have : j' = j := by omega
      subst this
      rw [hp] at h2
      rw [hr] at h3
      cases h2
      cases h3
      exact hlt⟩
/-- Inside r = c[k]: cut up to lo, the next of d is k2. -/
structure DJ (c d : List (Int × Int)) (k k2 : Nat) (r : Int × Int) (lo : Int) (ol : List (Int × Int)) : Prop where
  nrm : Nrm ol
  mem : ∀ x, x < lo → memB ol x = ((memB (c.take k) x || (decide (r.1 ≤ x) && decide (x ≤ r.2))) && !memB d x)
  fin : ∀ p ∈ ol, p.2 + 1 < lo
  top : ∀ p ∈ ol, p.2 ≤ r.2
  lo1 : r.1 ≤ lo
  bef : ∀ (j' : Nat) (p : Int × Int), j' < k2 → d[j']? = some p → p.2 < lo
  aft : lo = r.1 ∨ ∀ (j' : Nat) (p : Int × Int), k2 ≤ j' → d[j']? = some p → lo < p.1
theorem DI.enter {c d ol : List (Int × Int)} {k j : Nat} {r : Int × Int} (h : DI c d k j ol) (hc : Nrm c) (hr : c[k]? = some r) : DJ c d k j r r.1 ol :=
  ⟨h.nrm, fun x hx => by
    rw [h.mem x, decide_eq_false (show ¬ r.1 ≤ x by omega), Bool.false_and, Bool.or_false],
   fun p hp => h.gap p hp r hr, fun p hp => by have := h.gap p hp r hr; have := hc.rng r (List.mem_of_getElem? hr); omega, Int.le_refl _, fun j' p h1 h2 => h.skip j' p r h1 h2 hr, .inl rfl⟩
theorem DJ.step {c d ol : List (Int × Int)} {k k2 : Nat} {r p : Int × Int} {lo : Int} (h : DJ c d k k2 r lo ol) (hd : Nrm d) (hrr : 0 ≤ r.1 ∧ r.1 ≤ r.2 ∧ r.2 ≤ 196607) (hp : d[k2]? = some p) (hle : p.1 ≤ r.2) (hge : r.1 ≤ p.2) :
    DJ c d k (k2 + 1) r (p.2 + 1) (ol ++ if lo < p.1 then [(lo, p.1 - 1)] else []) := by
  have hpr := hd.rng p (List.mem_of_getElem? hp)
  have hlo1 := h.lo1
  have hlp : lo ≤ p.2 := by
    rcases h.aft with h1 | h1
    · omega
    · have := h1 k2 p (Nat.le_refl _) hp; omega
  have hin : ∀ q ∈ ol ++ (if lo < p.1 then [(lo, p.1 - 1)] else []), q ∈ ol ∨ (q = (lo, p.1 - 1) ∧ lo < p.1) := fun q hq => by
    rcases List.mem_append.1 hq with h1 | h1
    · exact .inl h1
    · split at h1
      · rename_i hl; simp at h1; exact .inr ⟨h1, hl⟩
      · cases h1
  refine ⟨?_, fun x hx => ?_, fun q hq => ?_, fun q hq => ?_, by omega, fun j' q h1 h2 => ?_, .inr fun j' q h1 h2 => hd.later (by omega) hp h2⟩
  · split
    · exact nrm_snoc h.nrm ⟨by show 0 ≤ lo; omega, by show lo ≤ p.1 - 1; omega, by show p.1 - 1 ≤ 196607; omega⟩ (fun q hq => h.fin q hq)
    · rw [List.append_nil]; exact h.nrm
  · rcases Int.lt_or_le x lo with hx1 | hx1
    · rw [memB_append, ← h.mem x hx1]
      have : memB (if lo < p.1 then [(lo, p.1 - 1)] else []) x = false := by
        split
        · rw [memB_one]; simp; omega
        · rfl
      rw [this, Bool.or_false]
    · rcases Int.lt_or_le x p.1 with hx2 | hx2
      · have h1 : memB d x = false := mem_gap (k := k2) (fun i q hi hq => by have := h.bef i q hi hq; omega) (fun i q hi hq => by
          rcases Nat.lt_or_ge k2 i with h5 | h5
          · have := hd.later h5 hp hq; omega
          · have : i = k2 := by omega
            subst this
            rw [hp] at hq
            cases hq
            exact hx2)
        rw [h1, memB_append, if_pos (by omega), memB_one, decide_eq_true (show r.1 ≤ x by omega), decide_eq_true (show x ≤ r.2 by omega)]
        have : (decide (lo ≤ x) && decide (x ≤ p.1 - 1)) = true := by simp; omega
        show (memB ol x || (decide (lo ≤ x) && decide (x ≤ p.1 - 1))) = _
        rw [this]
        simp
      · have h1 : memB d x = true := memB_iff.2 ⟨p, List.mem_of_getElem? hp, hx2, by omega⟩
        rw [h1, mem_below (fun q hq => by
          rcases hin q hq with h5 | ⟨h5, _⟩
          · have := h.fin q h5; omega
          · rw [h5]; show p.1 - 1 < x; omega)]
        simp
  · rcases hin q hq with h5 | ⟨h5, _⟩
    · have := h.fin q h5; omega
    · rw [h5]; show p.1 - 1 + 1 < p.2 + 1; omega
  · rcases hin q hq with h5 | ⟨h5, _⟩
    · exact h.top q h5
    · rw [h5]; show p.1 - 1 ≤ r.2; omega
  · rcases Nat.lt_or_ge j' k2 with h5 | h5
    · have := h.bef j' q h5 h2; omega
    · have : j' = k2 := by omega
      subst this
      rw [hp] at h2
      cases h2
      omega
theorem DJ.leave {c d ol : List (Int × Int)} {k k2 j : Nat} {r : Int × Int} {lo : Int} (h : DJ c d k k2 r lo ol) (hc : Nrm c) (hd : Nrm d) (hr : c[k]? = some r) (hend : ∀ q, d[k2]? = some q → r.2 < q.1) (hj : ∀ (j' : Nat) (p : Int × Int), j' < j → d[j']? = some p → p.2 < r.1) :
    DI c d (k + 1) j (ol ++ if lo ≤ r.2 then [(lo, r.2)] else []) := by
  have hrr := hc.rng r (List.mem_of_getElem? hr)
  have hlo1 := h.lo1
  have hin : ∀ q ∈ ol ++ (if lo ≤ r.2 then [(lo, r.2)] else []), q ∈ ol ∨ (q = (lo, r.2) ∧ lo ≤ r.2) := fun q hq => by
    rcases List.mem_append.1 hq with h1 | h1
    · exact .inl h1
    · split at h1
      · rename_i hl; simp at h1; exact .inr ⟨h1, hl⟩
      · cases h1
  have htop : ∀ q ∈ ol ++ (if lo ≤ r.2 then [(lo, r.2)] else []), q.2 ≤ r.2 := fun q hq => by
    rcases hin q hq with h5 | ⟨h5, _⟩
    · exact h.top q h5
    · rw [h5]; exact Int.le_refl _
  have hct : ∀ x, memB (c.take (k + 1)) x = (memB (c.take k) x || (decide (r.1 ≤ x) && decide (x ≤ r.2))) := fun x => memB_take hr x
  refine ⟨?_, fun x => ?_, fun q hq q' hq' => ?_, fun j' p q h1 h2 h3 => ?_⟩
  · split
    · rename_i hl
      exact nrm_snoc h.nrm ⟨by show 0 ≤ lo; omega, hl, by show r.2 ≤ 196607; omega⟩ (fun q hq => h.fin q hq)
    · rw [List.append_nil]; exact h.nrm
  · rw [hct x]
    rcases Int.lt_or_le x lo with hx1 | hx1
    · rw [memB_append, ← h.mem x hx1]
      have : memB (if lo ≤ r.2 then [(lo, r.2)] else []) x = false := by
        split
        · rw [memB_one]; simp; omega
        · rfl
      rw [this, Bool.or_false]
    · rcases Int.lt_or_le r.2 x with hx2 | hx2
      · have h1 : memB (c.take k) x = false := mem_below (fun q hq => by
          obtain ⟨i, hi⟩ := List.mem_iff_getElem?.1 hq
          have hlt := (List.getElem?_eq_some_iff.1 hi).1
          rw [List.length_take] at hlt
          rw [List.getElem?_take, if_pos (by omega)] at hi
          have := hc.later (show i < k by omega) hi hr
          omega)
        rw [h1, decide_eq_false (show ¬ x ≤ r.2 by omega), mem_below (fun q hq => by have := htop q hq; omega)]
        simp
      · have h1 : memB d x = false := mem_gap (k := k2) (fun i q hi hq => by have := h.bef i q hi hq; omega) (fun i q hi hq => by
          have hlt := (List.getElem?_eq_some_iff.1 hq).1
          obtain ⟨q0, hq0⟩ : ∃ q0, d[k2]? = some q0 := ⟨_, List.getElem?_eq_getElem (by omega)⟩
          have h6 := hend q0 hq0
          have h7 := hd.rng q0 (List.mem_of_getElem? hq0)
          rcases Nat.lt_or_ge k2 i with h5 | h5
          · have := hd.later h5 hq0 hq; omega
          · have : i = k2 := by omega
            subst this
            rw [hq0] at hq
            cases hq
            omega)
        rw [h1, memB_append, if_pos (by omega), memB_one, decide_eq_true (show r.1 ≤ x by omega), decide_eq_true (show x ≤ r.2 by omega)]
        have : (decide (lo ≤ x) && true) = true := by simp; omega
        show (memB ol x || (decide (lo ≤ x) && true)) = _
        rw [this]
        simp
  · have h1 := htop q hq
    have h2 := hc.later (show k < k + 1 by omega) hr hq'
    omega
  · have h4 := hj j' p h1 h2
    have h5 := hc.later (show k < k + 1 by omega) hr h3
    omega
theorem DI.fin {c d ol : List (Int × Int)} {j : Nat} (h : DI c d c.length j ol) (x : Int) : memB ol x = (memB c x && !memB d x) := by
  rw [h.mem x, List.take_of_length_le (Nat.le_refl _)]
end Go.Proofs.Qxb6500884a
