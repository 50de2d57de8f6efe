/- A path's bytes split into components, plainly. -/
import Derived.Test.Qxb6500891aPtNew
namespace Go.Proofs.Qxb6500891a
open Go.RowKit
set_option linter.unusedSimpArgs false
set_option linter.unusedVariables false

def splitA : List Nat → List Nat → List (List Nat × Bool)
  | cur, [] => if cur = [] then [] else [(cur, false)]
  | cur, x :: l => if x = 47 then (if cur = [] then splitA [] l else (cur, true) :: splitA [] l) else splitA (cur ++ [x]) l
/-- The components: the name, and whether a slash follows. -/
def splitV (l : List Nat) : List (List Nat × Bool) := splitA [] l
theorem splitV_nil : splitV [] = [] := by simp [splitV, splitA]
theorem splitV_slash (l : List Nat) : splitV (47 :: l) = splitV l := by simp [splitV, splitA]
theorem splitA_word (n : List Nat) : ∀ (cur r : List Nat), (∀ x ∈ n, x ≠ 47) → splitA cur (n ++ r) = splitA (cur ++ n) r := by
  induction n with
  | nil => intro cur r _; simp
  | cons x n ih =>
    intro cur r h
    rw [List.cons_append, splitA, if_neg (h x (by simp)), ih _ _ (fun y hy => h y (by simp [hy]))]
    simp
theorem splitV_word {n r : List Nat} (hn : n ≠ []) (h : ∀ x ∈ n, x ≠ 47) : splitV (n ++ 47 :: r) = (n, true) :: splitV r := by
  unfold splitV
  rw [splitA_word n [] _ h, List.nil_append, splitA, if_pos rfl, if_neg hn]
theorem splitV_last {n : List Nat} (hn : n ≠ []) (h : ∀ x ∈ n, x ≠ 47) : splitV n = [(n, false)] := by
  have := splitA_word n [] [] h
  rw [List.append_nil] at this
  unfold splitV
  rw [this, List.nil_append, splitA, if_neg hn]
theorem splitA_ne : ∀ (l cur : List Nat), cur ≠ [] → splitA cur l ≠ [] := by
  intro l
  induction l with
  | nil => intro cur h; rw [splitA, if_neg h]; simp
  | cons x l ih =>
    intro cur h
    rw [splitA]
    split
    · simp
    · exact ih _ (by simp)
theorem splitA_last : ∀ (l cur : List Nat) (p : List Nat × Bool), (splitA cur l).getLast? = some p → p.2 = (l.getLast? == some 47) := by
  intro l
  induction l with
  | nil =>
    intro cur p h
    rw [splitA] at h
    split at h
    · simp at h
    · simp at h; rw [← h]; rfl
  | cons x l ih =>
    intro cur p h
    rw [splitA] at h
    have hl : l ≠ [] → (x :: l).getLast? = l.getLast? := fun hne => by cases l with | nil => exact absurd rfl hne | cons a b => simp [List.getLast?_cons_cons]
    split at h
    · rename_i hx
      subst hx
      have h0 : ∀ q, (splitA [] l).getLast? = some q → q.2 = ((47 :: l).getLast? == some 47) := fun q hq => by
        have hne : l ≠ [] := fun e => by subst e; simp [splitA] at hq
        rw [hl hne]
        exact ih [] q hq
      split at h
      · exact h0 p h
      · cases hs : splitA [] l with
        | nil =>
          rw [hs] at h
          simp at h
          rw [← h]
          have hall : ∀ (k : List Nat), splitA [] k = [] → (47 :: k).getLast? = some 47 := by
            intro k
            induction k with
            | nil => intro _; rfl
            | cons y k ihk =>
              intro hy
              rw [splitA] at hy
              split at hy
              · rename_i e
                subst e
                rw [List.getLast?_cons_cons]
                exact ihk (by simpa using hy)
              · exact absurd hy (splitA_ne _ _ (by simp))
          rw [hall l hs]
          rfl
        | cons q r =>
          rw [hs, List.getLast?_cons_cons] at h
          exact h0 p (by rw [hs]; exact h)
    · rename_i hx
      have h1 := ih _ p h
      rw [h1]
      cases l with
      | nil =>
        symm
        simp
        exact hx
      | cons a b => rw [hl (by simp)]
theorem splitV_lastflag {l : List Nat} {p : List Nat × Bool} (h : (splitV l).getLast? = some p) : p.2 = (l.getLast? == some 47) := splitA_last l [] p h
theorem splitA_short : ∀ (l cur : List Nat), ∀ c ∈ splitA cur l, c.1.length ≤ cur.length + l.length := by
  intro l
  induction l with
  | nil =>
    intro cur c hc
    rw [splitA] at hc
    split at hc
    · cases hc
    · simp at hc; rw [hc]; simp
  | cons x l ih =>
    intro cur c hc
    rw [splitA] at hc
    split at hc
    · split at hc
      · have := ih _ c hc
        simp at this ⊢
        omega
      · rcases List.mem_cons.1 hc with rfl | hc
        · simp
        · have := ih _ c hc
          simp at this ⊢
          omega
    · have := ih _ c hc
      simp at this ⊢
      omega
theorem splitV_short {l : List Nat} : ∀ c ∈ splitV l, c.1.length ≤ l.length := fun c hc => by have := splitA_short l [] c hc; simpa using this
/-- What Set lets in. -/
def GoodP (l : List Nat) : Prop := l ≠ [] ∧ l.length ≤ 255 ∧ (∀ x ∈ l, x ≠ 0) ∧ ∀ c ∈ splitV l, c.1.length ≤ 32
theorem GoodP.small {l : List Nat} (h : l ≠ []) (h1 : l.length ≤ 32) (h2 : ∀ x ∈ l, x ≠ 0) : GoodP l := ⟨h, by omega, h2, fun c hc => Nat.le_trans (splitV_short c hc) h1⟩
end Go.Proofs.Qxb6500891a
