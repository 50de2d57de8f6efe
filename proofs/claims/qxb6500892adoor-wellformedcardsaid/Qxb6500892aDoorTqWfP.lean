/- WellFormed: the plain side. -/
import Derived.Test.Qxb6500892aDoorTqLok
namespace Go.Proofs.Qxb6500892aDoor
open Go.RowKit
set_option linter.unusedSimpArgs false
set_option linter.unusedVariables false

/-- How often the lists below q hold c. -/
def seenF (L : Nat → List Nat) : Nat → Nat → Int
  | 0 => fun _ => 0
  | q + 1 => inc (L q) (seenF L q)
theorem seenF_bd (L : Nat → List Nat) : ∀ q c, 0 ≤ seenF L q c ∧ seenF L q c ≤ (q : Int)
  | 0, c => ⟨Int.le_refl _, Int.le_refl _⟩
  | q + 1, c => by
    have h := seenF_bd L q c
    show 0 ≤ inc (L q) (seenF L q) c ∧ inc (L q) (seenF L q) c ≤ _
    unfold inc
    split <;> omega
section
variable {s : ES} {L C : Nat → List Nat}
theorem EI.memL (h : EI s L C) {c q : Nat} (hc : c < s.n) (hq : q < 5) (hq0 : q ≠ 0) : c ∈ L q ↔ s.whr c = q := by
  constructor
  · exact (h.q.dl q hq).wh c
  · intro e
    have := h.q.mem c hc (by omega)
    rw [e] at this
    exact this
theorem seen5 (h : EI s L C) {c : Nat} (hc : c < s.n) : seenF L 5 c = if s.whr c = 0 then 0 else 1 := by
  have hw := h.q.w5 c hc
  have e0 : c ∉ L 0 := by rw [h.q.l0]; simp
  have m1 := h.memL hc (q := 1) (by omega) (by omega)
  have m2 := h.memL hc (q := 2) (by omega) (by omega)
  have m3 := h.memL hc (q := 3) (by omega) (by omega)
  have m4 := h.memL hc (q := 4) (by omega) (by omega)
  show inc (L 4) (inc (L 3) (inc (L 2) (inc (L 1) (inc (L 0) fun _ => 0)))) c = _
  unfold inc
  rw [if_neg e0]
  rcases (by omega : s.whr c = 0 ∨ s.whr c = 1 ∨ s.whr c = 2 ∨ s.whr c = 3 ∨ s.whr c = 4) with e | e | e | e | e
  · rw [if_neg (fun hh => by have := m1.1 hh; omega), if_neg (fun hh => by have := m2.1 hh; omega), if_neg (fun hh => by have := m3.1 hh; omega), if_neg (fun hh => by have := m4.1 hh; omega), if_pos e]; rfl
  · rw [if_pos (m1.2 e), if_neg (fun hh => by have := m2.1 hh; omega), if_neg (fun hh => by have := m3.1 hh; omega), if_neg (fun hh => by have := m4.1 hh; omega), if_neg (by omega)]; rfl
  · rw [if_neg (fun hh => by have := m1.1 hh; omega), if_pos (m2.2 e), if_neg (fun hh => by have := m3.1 hh; omega), if_neg (fun hh => by have := m4.1 hh; omega), if_neg (by omega)]; rfl
  · rw [if_neg (fun hh => by have := m1.1 hh; omega), if_neg (fun hh => by have := m2.1 hh; omega), if_pos (m3.2 e), if_neg (fun hh => by have := m4.1 hh; omega), if_neg (by omega)]; rfl
  · rw [if_neg (fun hh => by have := m1.1 hh; omega), if_neg (fun hh => by have := m2.1 hh; omega), if_neg (fun hh => by have := m3.1 hh; omega), if_pos (m4.2 e), if_neg (by omega)]; rfl
/-- A count over all the nodes. -/
def cntR (n : Nat) (p : Nat → Bool) : Nat := (List.range n).countP p
theorem cntR_succ (n : Nat) (p : Nat → Bool) : cntR (n + 1) p = cntR n p + (if p n then 1 else 0) := by
  unfold cntR
  rw [List.range_succ, List.countP_append]
  simp [List.countP_cons]
theorem cntR_list {n : Nat} {M : List Nat} (hn : M.Nodup) (hl : ∀ i ∈ M, i < n) (p : Nat → Bool) : M.countP p = cntR n (fun i => decide (i ∈ M) && p i) := by
  unfold cntR
  have hp : M.Perm ((List.range n).filter fun i => decide (i ∈ M)) := by
    rw [List.perm_ext_iff_of_nodup hn (List.Nodup.sublist List.filter_sublist List.nodup_range)]
    intro a
    rw [List.mem_filter, List.mem_range]
    constructor
    · intro h
      exact ⟨hl a h, decide_eq_true h⟩
    · intro h
      exact of_decide_eq_true h.2
  rw [hp.countP_eq, List.countP_filter]
  congr 1
  funext i
  rw [Bool.and_comm]
theorem cntR_congr {n : Nat} {p p' : Nat → Bool} (h : ∀ i, i < n → p i = p' i) : cntR n p = cntR n p' := by
  unfold cntR
  exact List.countP_congr (fun i hi => by rw [h i (List.mem_range.1 hi)])
def lvB (s : ES) (i : Nat) : Bool := decide (s.whr i = 1 ∨ s.whr i = 2)
theorem wf_negs (h : EI s L C) : s.negs = (cntR s.n (fun i => lvB s i && s.neg i) : Int) := by
  rw [h.negs, cntR_list (h.q.dl 1 (by omega)).nd (h.q.dl 1 (by omega)).lt]
  congr 1
  refine cntR_congr fun i hi => ?_
  cases hg : s.neg i with
  | false => simp
  | true =>
    have h1 := h.ng i hi hg
    have h2 := (h.memL hi (q := 1) (by omega) (by omega)).2 h1
    unfold lvB
    rw [decide_eq_true h2, decide_eq_true (.inl h1)]
theorem app_nodup (h : EI s L C) : (L 1 ++ L 2).Nodup := by
  rw [List.nodup_append]
  refine ⟨(h.q.dl 1 (by omega)).nd, (h.q.dl 2 (by omega)).nd, fun a ha b hb e => ?_⟩
  have h1 := (h.q.dl 1 (by omega)).wh a ha
  have h2 := (h.q.dl 2 (by omega)).wh b hb
  rw [← e] at h2
  omega
theorem wf_pinned (h : EI s L C) : s.pinned = (cntR s.n (fun i => lvB s i && decide (0 < s.pin i)) : Int) := by
  rw [h.pinned, cntR_list (app_nodup h) (fun i hi => by rcases List.mem_append.1 hi with h1 | h1; exact (h.q.dl 1 (by omega)).lt i h1; exact (h.q.dl 2 (by omega)).lt i h1)]
  congr 1
  refine cntR_congr fun i hi => ?_
  have m1 := h.memL hi (q := 1) (by omega) (by omega)
  have m2 := h.memL hi (q := 2) (by omega) (by omega)
  have hp := (h.pn i hi).1
  unfold lvB
  congr 1
  · refine decide_eq_decide.2 ?_
    rw [List.mem_append, m1, m2]
  · exact decide_eq_decide.2 (by omega)
/-- The keys of the nodes below i that have one. -/
def hsB (s : ES) (i : Nat) : Bool := decide (s.whr i = 1 ∨ s.whr i = 2 ∨ s.whr i = 3)
def keysB (s : ES) (i : Nat) : List Nat := ((List.range i).filter (hsB s)).map s.key
theorem keysB_succ (s : ES) (i : Nat) : keysB s (i + 1) = if hsB s i = true then keysB s i ++ [s.key i] else keysB s i := by
  unfold keysB
  rw [List.range_succ, List.filter_append, List.map_append]
  cases h : hsB s i <;> simp [h]
theorem key_new (h : EI s L C) {i : Nat} (hi : i < s.n) (hb : hsB s i = true) : s.key i ∉ keysB s i := fun hm => by
  unfold keysB at hm
  obtain ⟨j, hj, e⟩ := List.mem_map.1 hm
  rw [List.mem_filter, List.mem_range] at hj
  have h1 := h.uq j i ⟨by omega, of_decide_eq_true hj.2⟩ ⟨hi, of_decide_eq_true hb⟩ e
  omega
/-- The hash chains. -/
theorem Chn.head : ∀ {M : List Nat} {x : Int}, Chn s x M → x = headI M ∧ (∀ i ∈ M, i < s.n) ∧ ∀ k (hk : k < M.length), s.chn M[k] = headI (M.drop (k + 1))
  | [], x, h => ⟨h, fun i hi => by simp at hi, fun k hk => by simp at hk⟩
  | i :: M, x, h => by
    obtain ⟨a, b, c⟩ := h.2.2.head
    refine ⟨h.1, fun j hj => ?_, fun k hk => ?_⟩
    · rcases List.mem_cons.1 hj with rfl | h1
      · exact h.2.1
      · exact b j h1
    · cases k with
      | zero => simpa using a
      | succ k => simpa using c k (by simpa using hk)
def chB (s : ES) (b c : Nat) : Bool := hsB s c && decide (hsh s (s.key c) < b)
def chF (s : ES) (b c : Nat) : Int := if chB s b c = true then 1 else 0
theorem EI.memC (h : EI s L C) {b c : Nat} (hb : b < s.m) (hc : c < s.n) : c ∈ C b ↔ hsB s c = true ∧ hsh s (s.key c) = b := by
  constructor
  · intro hm
    obtain ⟨h1, h2⟩ := h.c.hs b c hb hm
    exact ⟨decide_eq_true h2.2, h1⟩
  · rintro ⟨h1, h2⟩
    have := h.c.mem c hc ⟨hc, of_decide_eq_true h1⟩
    rw [h2] at this
    exact this
theorem chF_succ (h : EI s L C) {b c : Nat} (hb : b < s.m) (hc : c < s.n) : inc (C b) (chF s b) c = chF s (b + 1) c := by
  have hm := h.memC hb hc
  unfold inc chF chB
  by_cases h1 : hsB s c = true
  · by_cases h2 : hsh s (s.key c) = b
    · rw [if_pos (hm.2 ⟨h1, h2⟩), h1]
      simp [h2]
    · rw [if_neg (fun hh => h2 (hm.1 hh).2), h1]
      by_cases h3 : hsh s (s.key c) < b
      · simp [h3, show hsh s (s.key c) < b + 1 by omega]
      · simp [h3, show ¬ hsh s (s.key c) < b + 1 by omega]
  · have h1' : hsB s c = false := by simpa using h1
    rw [if_neg (fun hh => h1 (hm.1 hh).1), h1']
    simp
theorem ch_count (h : EI s L C) {b : Nat} (hb : b < s.m) : cntR s.n (chB s b) + (C b).length = cntR s.n (chB s (b + 1)) := by
  have h1 : (C b).length = cntR s.n (fun i => decide (i ∈ C b) && true) := by
    rw [← cntR_list (h.c.nd b hb) (fun i hi => (h.c.hs b i hb hi).2.1) (fun _ => true)]
    simp
  rw [h1]
  have key : ∀ n, n ≤ s.n → cntR n (chB s b) + cntR n (fun i => decide (i ∈ C b) && true) = cntR n (chB s (b + 1)) := by
    intro n
    induction n with
    | zero => intro _; rfl
    | succ n ih =>
      intro hn
      rw [cntR_succ, cntR_succ, cntR_succ]
      have h2 := ih (by omega)
      have hm := h.memC hb (c := n) (by omega)
      have h3 : (if chB s b n = true then 1 else 0) + (if (decide (n ∈ C b) && true) = true then 1 else 0) = (if chB s (b + 1) n = true then 1 else 0) := by
        unfold chB
        by_cases e1 : hsB s n = true
        · by_cases e2 : hsh s (s.key n) = b
          · rw [decide_eq_true (hm.2 ⟨e1, e2⟩), e1]
            simp [e2]
          · rw [decide_eq_false (fun hh => e2 (hm.1 hh).2), e1]
            by_cases e3 : hsh s (s.key n) < b
            · simp [e3, show hsh s (s.key n) < b + 1 by omega]
            · simp [e3, show ¬ hsh s (s.key n) < b + 1 by omega]
        · have e1' : hsB s n = false := by simpa using e1
          rw [decide_eq_false (fun hh => e1 (hm.1 hh).1), e1']
          simp
      omega
  exact key s.n (Nat.le_refl _)
theorem cntR_le (n : Nat) (p : Nat → Bool) : cntR n p ≤ n := by
  unfold cntR
  exact Nat.le_trans List.countP_le_length (by simp)
theorem chF_all (h : EI s L C) {c : Nat} (hc : c < s.n) : chF s s.m c = if hsB s c = true then 1 else 0 := by
  unfold chF chB
  have := h.c.bw.lt (s.key c)
  rw [decide_eq_true this, Bool.and_true]
end
end Go.Proofs.Qxb6500892aDoor
