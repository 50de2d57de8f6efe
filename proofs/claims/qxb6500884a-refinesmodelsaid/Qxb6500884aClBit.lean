/- Patterns: byte strings whose bits are toggled; edges of classes and their parity. No Go here. -/
import Derived.Test.Qxb6500884aClCmp
namespace Go.Proofs.Qxb6500884a
set_option linter.unusedSimpArgs false
set_option linter.unusedVariables false

def bitAt (bs : List UInt8) (m : Nat) : Bool := (bs.getD (m / 8) 0).toNat.testBit (m % 8)
def tog (bs : List UInt8) (m : Nat) : List UInt8 := bs.set (m / 8) (bs.getD (m / 8) 0 ^^^ UInt8.ofNat (2 ^ (m % 8)))
theorem tog_len (bs : List UInt8) (m : Nat) : (tog bs m).length = bs.length := by unfold tog; simp
theorem two_pow_lt (m : Nat) : 2 ^ (m % 8) < 256 := by
  have h : m % 8 < 8 := Nat.mod_lt _ (by omega)
  have : ∀ k, k < 8 → 2 ^ k < 256 := by decide
  exact this _ h
theorem bitAt_tog {bs : List UInt8} {m : Nat} (h : m / 8 < bs.length) (j : Nat) : bitAt (tog bs m) j = (bitAt bs j != decide (m = j)) := by
  unfold bitAt tog
  by_cases hj : m / 8 = j / 8
  · rw [← hj, List.getD_eq_getElem?_getD, List.getElem?_set_self h, List.getD_eq_getElem?_getD]
    simp only [Option.getD_some, UInt8.toNat_xor, Nat.testBit_xor, UInt8.toNat_ofNat']
    rw [Nat.mod_eq_of_lt (show 2 ^ (m % 8) < 2 ^ 8 from two_pow_lt m), Nat.testBit_two_pow]
    have : (m % 8 = j % 8) ↔ (m = j) := by omega
    simp only [this]
  · rw [List.getD_eq_getElem?_getD, List.getElem?_set_ne hj, List.getD_eq_getElem?_getD]
    have : decide (m = j) = false := decide_eq_false (by intro e; rw [e] at hj; exact hj rfl)
    rw [this]
    simp
theorem bits_ext {bs cs : List UInt8} (hl : bs.length = cs.length) (h : ∀ m, bitAt bs m = bitAt cs m) : bs = cs := by
  apply List.ext_getElem hl
  intro i h1 h2
  apply UInt8.toNat_inj.1
  apply Nat.eq_of_testBit_eq
  intro k
  by_cases hk : k < 8
  · have := h (i * 8 + k)
    unfold bitAt at this
    rw [show (i * 8 + k) / 8 = i by omega, show (i * 8 + k) % 8 = k by omega, List.getD_eq_getElem?_getD, List.getD_eq_getElem?_getD, List.getElem?_eq_getElem h1, List.getElem?_eq_getElem h2] at this
    exact this
  · have : ∀ b : UInt8, b.toNat.testBit k = false := fun b => by
      apply Nat.testBit_lt_two_pow
      have h3 : b.toNat < 2 ^ 8 := b.toNat_lt
      have h4 : (2 : Nat) ^ 8 ≤ 2 ^ k := Nat.pow_le_pow_right (by omega) (by omega)
      omega
    rw [this, this]
theorem bitAt_zero (n j : Nat) : bitAt (List.replicate n 0) j = false := by
  unfold bitAt
  rw [List.getD_eq_getElem?_getD, List.getElem?_replicate]
  split <;> simp
/-- The parity of the truths of a list. -/
def xorL : List Bool → Bool
  | [] => false
  | b :: l => b != xorL l
theorem xorL_perm {l l' : List Bool} (h : l.Perm l') : xorL l = xorL l' := by
  induction h with
  | nil => rfl
  | cons x _ ih => simp only [xorL, ih]
  | swap x y l => simp only [xorL]; cases x <;> cases y <;> cases xorL l <;> rfl
  | trans _ _ ih1 ih2 => rw [ih1, ih2]
theorem xorL_append (l l' : List Bool) : xorL (l ++ l') = (xorL l != xorL l') := by
  induction l with
  | nil => simp [xorL]
  | cons x l ih => simp only [List.cons_append, xorL, ih]; cases x <;> cases xorL l <;> cases xorL l' <;> rfl
theorem xorL_false {l : List Bool} (h : ∀ b ∈ l, b = false) : xorL l = false := by
  induction l with
  | nil => rfl
  | cons x l ih => simp only [xorL, ih (fun b hb => h b (by simp [hb])), h x (by simp)]; rfl
/-- All the toggles. -/
def togs (bs : List UInt8) (es : List (Int × Int)) : List UInt8 := es.foldl (fun b e => tog b e.2.toNat) bs
theorem togs_len (es : List (Int × Int)) : ∀ bs : List UInt8, (togs bs es).length = bs.length := by
  unfold togs
  induction es with
  | nil => intro bs; rfl
  | cons e es ih => intro bs; rw [List.foldl_cons, ih, tog_len]
theorem togs_snoc (bs : List UInt8) (es : List (Int × Int)) (e : Int × Int) : togs bs (es ++ [e]) = tog (togs bs es) e.2.toNat := by unfold togs; rw [List.foldl_append]; rfl
theorem bitAt_togs (j : Nat) : ∀ (es : List (Int × Int)) (bs : List UInt8), (∀ e ∈ es, 0 ≤ e.2 ∧ e.2.toNat / 8 < bs.length) → bitAt (togs bs es) j = (bitAt bs j != xorL (es.map fun e => decide (e.2 = (j : Int))))
  | [], bs, _ => by simp [togs, xorL]
  | e :: es, bs, h => by
    have h1 := h e (by simp)
    have h2 := bitAt_togs j es (tog bs e.2.toNat) (fun x hx => by rw [tog_len]; exact h x (by simp [hx]))
    unfold togs at h2 ⊢
    rw [List.foldl_cons, h2, bitAt_tog h1.2, List.map_cons]
    have : decide (e.2.toNat = j) = decide (e.2 = (j : Int)) := by
      rw [decide_eq_decide]
      omega
    rw [this]
    simp only [xorL]
    cases bitAt bs j <;> cases decide (e.2 = (j : Int)) <;> cases xorL (es.map fun e => decide (e.2 = (j : Int))) <;> rfl
/-- The edges of one class; of a family. -/
def edgesOf (m : Nat) (l : List (Int × Int)) : List (Int × Int) := l.flatMap fun p => (p.1, (m : Int)) :: (if p.2 < 196607 then [(p.2 + 1, (m : Int))] else [])
def edgesFrom : Nat → List (List (Int × Int)) → List (Int × Int)
  | _, [] => []
  | m, l :: Ls => edgesOf m l ++ edgesFrom (m + 1) Ls
/-- Membership of x in class j, by its edges. -/
def tx (es : List (Int × Int)) (j : Nat) (x : Int) : Bool := xorL (es.map fun e => decide (e.1 ≤ x) && decide (e.2 = (j : Int)))
theorem tx_append (a b : List (Int × Int)) (j : Nat) (x : Int) : tx (a ++ b) j x = (tx a j x != tx b j x) := by unfold tx; rw [List.map_append, xorL_append]
theorem tx_perm {a b : List (Int × Int)} (h : a.Perm b) (j : Nat) (x : Int) : tx a j x = tx b j x := xorL_perm (h.map _)
theorem tx_other {m j : Nat} (h : m ≠ j) (l : List (Int × Int)) (x : Int) : tx (edgesOf m l) j x = false := by
  unfold tx
  apply xorL_false
  intro b hb
  obtain ⟨e, he, rfl⟩ := List.mem_map.1 hb
  unfold edgesOf at he
  obtain ⟨p, _, hp⟩ := List.mem_flatMap.1 he
  have : e.2 = (m : Int) := by
    rcases List.mem_cons.1 hp with h1 | h1
    · rw [h1]
    · split at h1
      · simp at h1; rw [h1]
      · simp at h1
  rw [this, decide_eq_false (show ¬ (m : Int) = (j : Int) by omega)]
  simp
theorem Nrm.tail {p : Int × Int} {l : List (Int × Int)} (h : Nrm (p :: l)) : Nrm l := ⟨fun q hq => h.rng q (by simp [hq]), fun i a b ha hb => h.gap (i + 1) a b (by simpa using ha) (by simpa using hb)⟩
theorem Nrm.head_lt {p : Int × Int} {l : List (Int × Int)} (h : Nrm (p :: l)) : ∀ q ∈ l, p.2 + 1 < q.1 := fun q hq => by
  obtain ⟨i, hi⟩ := List.mem_iff_getElem?.1 hq
  exact h.later (show 0 < i + 1 by omega) (by simp) (by simpa using hi)
theorem tx_same {j : Nat} {l : List (Int × Int)} (h : Nrm l) {x : Int} (hx : x ≤ 196607) : tx (edgesOf j l) j x = memB l x := by
  induction l with
  | nil => rfl
  | cons p l ih =>
    have ih := ih h.tail
    have hr := h.rng p (by simp)
    have hl := h.head_lt
    have e1 : edgesOf j (p :: l) = ((p.1, (j : Int)) :: (if p.2 < 196607 then [(p.2 + 1, (j : Int))] else [])) ++ edgesOf j l := by unfold edgesOf; rw [List.flatMap_cons]
    have e2 : memB (p :: l) x = ((decide (p.1 ≤ x) && decide (x ≤ p.2)) || memB l x) := by unfold memB; rw [List.any_cons]
    rw [e1, tx_append, ih, e2]
    have e3 : tx ((p.1, (j : Int)) :: (if p.2 < 196607 then [(p.2 + 1, (j : Int))] else [])) j x = (decide (p.1 ≤ x) != decide (p.2 + 1 ≤ x)) := by
      unfold tx
      split
      · simp [xorL]
      · have : decide (p.2 + 1 ≤ x) = false := decide_eq_false (by omega)
        simp [xorL, this]
    rw [e3]
    by_cases h1 : p.1 ≤ x
    · by_cases h2 : x ≤ p.2
      · have h3 : memB l x = false := by
          rw [Bool.eq_false_iff]
          intro hm
          obtain ⟨q, hq, h4, h5⟩ := memB_iff.1 hm
          have := hl q hq
          omega
        rw [h3, decide_eq_true h1, decide_eq_true h2, decide_eq_false (show ¬ p.2 + 1 ≤ x by omega)]
        rfl
      · rw [decide_eq_true h1, decide_eq_false h2, decide_eq_true (show p.2 + 1 ≤ x by omega)]
        simp
    · rw [decide_eq_false h1, decide_eq_false (show ¬ p.2 + 1 ≤ x by omega)]
      simp
theorem tx_from {x : Int} (hx : x ≤ 196607) (j : Nat) : ∀ (Ls : List (List (Int × Int))) (m : Nat), (∀ l ∈ Ls, Nrm l) → tx (edgesFrom m Ls) j x = if m ≤ j then (match Ls[j - m]? with | some l => memB l x | none => false) else false
  | [], m, _ => by simp [edgesFrom, tx, xorL]
  | l :: Ls, m, h => by
    have ih := tx_from hx j Ls (m + 1) (fun q hq => h q (by simp [hq]))
    simp only [edgesFrom]
    rw [tx_append, ih]
    by_cases hmj : m = j
    · subst hmj
      rw [tx_same (h l (by simp)) hx, if_neg (by omega), if_pos (Nat.le_refl _)]
      simp
    · rw [tx_other hmj]
      by_cases h2 : m ≤ j
      · rw [if_pos h2, if_pos (by omega), show j - m = (j - (m + 1)) + 1 by omega, List.getElem?_cons_succ]
        simp
      · rw [if_neg h2, if_neg (by omega)]
        rfl
theorem edgesFrom_mem : ∀ (Ls : List (List (Int × Int))) (m : Nat), (∀ l ∈ Ls, Nrm l) → ∀ e ∈ edgesFrom m Ls, (0 ≤ e.1 ∧ e.1 ≤ 196607) ∧ (m : Int) ≤ e.2 ∧ e.2 < (m + Ls.length : Nat)
  | [], m, _, e, he => by simp [edgesFrom] at he
  | l :: Ls, m, h, e, he => by
    simp only [edgesFrom, List.mem_append] at he
    rcases he with he | he
    · unfold edgesOf at he
      obtain ⟨p, hp, hpe⟩ := List.mem_flatMap.1 he
      have hr := (h l (by simp)).rng p hp
      rcases List.mem_cons.1 hpe with h1 | h1
      · subst h1
        simp
        omega
      · split at h1
        · simp at h1
          subst h1
          simp
          omega
        · simp at h1
    · have := edgesFrom_mem Ls (m + 1) (fun q hq => h q (by simp [hq])) e he
      simp
      omega
end Go.Proofs.Qxb6500884a
