/- VictimRule: the plain law; Where at an empty slot. -/
import Derived.Test.Qxb6500892aDoorTqExp
namespace Go.Proofs.Qxb6500892aDoor
open Go.RowKit
set_option linter.unusedSimpArgs false
set_option linter.unusedVariables false

theorem find_ent (s : ES) (B : Bool) (l : List Nat) : (l.map (entOf s)).reverse.find? (fun t => (t.neg || !B) && decide (t.pins = 0)) = (vicO s B l).map (entOf s) := by
  rw [← List.map_reverse, List.find?_map]
  unfold vicO
  congr 2
  funext i
  simp only [vicP, entOf, Function.comp]
  exact Bool.and_comm _ _
theorem find_all (s : ES) (l : List Nat) : (l.map (entOf s)).reverse.find? (fun t => decide (t.pins = 0)) = (vicO s false l).map (entOf s) := by
  rw [← find_ent s false l]
  congr 1
  funext t
  simp
theorem find_neg (s : ES) (l : List Nat) : ((l.map (entOf s)).reverse.filter (·.neg)).find? (fun t => decide (t.pins = 0)) = (vicO s true l).map (entOf s) := by
  rw [← find_ent s true l, List.find?_filter]
  congr 1
  funext t
  simp
theorem vor_map (f : Nat → TEnt) (a b : Option Nat) : (a.map f).or (b.map f) = (vor a b).map f := by cases a <;> rfl
theorem count_neg (s : ES) (l : List Nat) : (l.map (entOf s)).countP (·.neg) = l.countP s.neg := by
  rw [List.countP_map]; rfl
/-- The victim, worked out from the view. -/
theorem exp_victim {s : ES} {L C : Nat → List Nat} (h : EI s L C) : expP ((L 1).map (entOf s)) ((L 2).map (entOf s)) s.kin s.kneg = (victimS s L).map (entOf s) := by
  have key : expP ((L 1).map (entOf s)) ((L 2).map (entOf s)) s.kin s.kneg = (vor (if (s.kneg : Int) < s.negs then vicO s true (L 1) else none) (if s.kin < (L 1).length then vor (vicO s false (L 1)) (vicO s false (L 2)) else vor (vicO s false (L 2)) (vicO s false (L 1)))).map (entOf s) := by
    unfold expP ordP
    rw [List.find?_append, ← vor_map, count_neg, ← h.negs, List.length_map]
    congr 1
    · split
      · exact find_neg s (L 1)
      · rfl
    · by_cases hk : s.kin < (L 1).length
      · rw [if_pos (by omega), if_pos hk, List.find?_append, find_all, find_all, vor_map]
      · rw [if_neg (by omega), if_neg hk, List.find?_append, find_all, find_all, vor_map]
  rw [key]
  unfold victimS
  by_cases hp : s.pinned = ((L 1).length + (L 2).length : Int)
  · rw [if_pos hp]
    have hall : ∀ i ∈ L 1 ++ L 2, s.pin i ≠ 0 := by
      have h1 := h.pinned
      rw [hp] at h1
      have h2 : (L 1 ++ L 2).countP (fun i => decide (s.pin i ≠ 0)) = (L 1 ++ L 2).length := by
        rw [List.length_append]; omega
      intro i hi
      have := List.countP_eq_length.1 h2 i hi
      simpa using this
    have hv : ∀ B q, (q = 1 ∨ q = 2) → vicO s B (L q) = none := fun B q hq => by
      unfold vicO
      rw [List.find?_eq_none]
      intro i hi
      have := hall i (by rw [List.mem_append]; rcases hq with rfl | rfl <;> simp at hi <;> simp [hi])
      unfold vicP
      simp [this]
    rw [hv true 1 (.inl rfl), hv false 1 (.inl rfl), hv false 2 (.inr rfl)]
    simp [vor]
  · rw [if_neg hp]
theorem slotO_victim (s : ES) (o : Option Nat) : slotO (o.map (entOf s)) = ovV o := by cases o <;> rfl
/-- There is a victim exactly if something has no pin. -/
theorem free_victim {s : ES} {L C : Nat → List Nat} (h : EI s L C) : (victimS s L).isSome = decide (0 < ((L 1).map (entOf s) ++ (L 2).map (entOf s)).countP (fun t => decide (t.pins = 0))) := by
  have h1 := exp_victim h
  cases hv : victimS s L with
  | none =>
    rw [hv] at h1
    have h2 : expP ((L 1).map (entOf s)) ((L 2).map (entOf s)) s.kin s.kneg = none := h1
    unfold expP at h2
    rw [List.find?_eq_none] at h2
    symm
    refine decide_eq_false (fun hc => ?_)
    obtain ⟨t, ht, hp⟩ := List.countP_pos_iff.1 hc
    refine h2 t ?_ hp
    unfold ordP
    rw [List.mem_append] at ht ⊢
    right
    split
    · rw [List.mem_append, List.mem_reverse, List.mem_reverse]
      exact ht
    · rw [List.mem_append, List.mem_reverse, List.mem_reverse]
      exact ht.symm
  | some i =>
    symm
    refine decide_eq_true (List.countP_pos_iff.2 ?_)
    obtain ⟨h2, h3, h4⟩ := h.victim hv
    have hm := h.q.mem i (by have := h.nn; omega) (by omega)
    refine ⟨entOf s i, ?_, decide_eq_true h4⟩
    rw [List.mem_append, List.mem_map, List.mem_map]
    rcases h3 with h3 | h3
    · rw [h3] at hm
      exact .inl ⟨i, hm, rfl⟩
    · rw [h3] at hm
      exact .inr ⟨i, hm, rfl⟩
section
variable {e gn gb : Nat} {s : ES} {L C : Nat → List Nat} {w : World}
set_option maxRecDepth 100000 in
/-- Where, at a slot without an entry. -/
theorem where_none (hE : EM e gn gb s w) (hn : s.slots ≤ s.n) {i : Nat} (hi : i < s.slots) (hw : s.whr i = 0) :
    Calls Tryd.prog 19 #[.pointer (some ⟨e, 0, none⟩), .int .i64 (i : Int)] w fun y w' => y = .returned (.int .u8 0) ∧ w' = w := by
  have HL := hid (live_walk hE hn (i : Int))
  have hlc : liveC s (i : Int) = 1 := by rw [liveC_at hi, if_pos hw]
  have hlp : liveP gn s (i : Int) = .pointer none := by unfold liveP; rw [hlc, if_neg (by omega)]
  rw [hlc, hlp] at HL
  clear hlc hlp hE
  go_enter Tryd.func19, Tryd.ntmps19
  go_wp2_with fail
  refine HL.out.mono ?_
  rintro y w2 ⟨rfl, hw2⟩
  have hw2' := hw2.symm
  clear hw2
  subst hw2'
  go_wp2
  go_ret
  exact ⟨rfl, rfl⟩
end
end Go.Proofs.Qxb6500892aDoor
