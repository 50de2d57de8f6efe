/- Reclaim. -/
import Derived.Test.Qxb6500892aDoorTqVic
namespace Go.Proofs.Qxb6500892aDoor
open Go.RowKit
set_option linter.unusedSimpArgs false
set_option linter.unusedVariables false

theorem vicO_some {s : ES} {B : Bool} {l : List Nat} {i : Nat} (h : vicO s B l = some i) : i ∈ l ∧ s.pin i = 0 := by
  unfold vicO at h
  have h1 := List.mem_of_find?_eq_some h
  have h2 := List.find?_some h
  unfold vicP at h2
  simp at h2 h1
  exact ⟨h1, h2.1⟩
theorem vor_some {a b : Option Nat} {i : Nat} (h : vor a b = some i) : a = some i ∨ b = some i := by
  unfold vor at h
  split at h
  · exact .inl h
  · exact .inr h
theorem EI.live_of {s : ES} {L C : Nat → List Nat} (h : EI s L C) {q : Nat} (hq : q = 1 ∨ q = 2) {i : Nat} (hi : i ∈ L q) : i < s.slots ∧ (s.whr i = 1 ∨ s.whr i = 2) := by
  have h1 := (h.q.dl q (by omega)).lt i hi
  have h2 := (h.q.dl q (by omega)).wh i hi
  refine ⟨?_, by omega⟩
  by_cases h3 : i < s.slots
  · exact h3
  · have := h.gho i (by omega) h1
    omega
theorem EI.victim {s : ES} {L C : Nat → List Nat} (h : EI s L C) {i : Nat} (hv : victimS s L = some i) : i < s.slots ∧ (s.whr i = 1 ∨ s.whr i = 2) ∧ s.pin i = 0 := by
  have hm : (i ∈ L 1 ∨ i ∈ L 2) ∧ s.pin i = 0 := by
    unfold victimS at hv
    split at hv
    · cases hv
    · rcases vor_some hv with h1 | h1
      · split at h1
        · exact ⟨.inl (vicO_some h1).1, (vicO_some h1).2⟩
        · cases h1
      · split at h1
        · rcases vor_some h1 with h2 | h2
          · exact ⟨.inl (vicO_some h2).1, (vicO_some h2).2⟩
          · exact ⟨.inr (vicO_some h2).1, (vicO_some h2).2⟩
        · rcases vor_some h1 with h2 | h2
          · exact ⟨.inr (vicO_some h2).1, (vicO_some h2).2⟩
          · exact ⟨.inl (vicO_some h2).1, (vicO_some h2).2⟩
  rcases hm.1 with h1 | h1
  · have := h.live_of (.inl rfl) h1
    exact ⟨this.1, this.2, hm.2⟩
  · have := h.live_of (.inr rfl) h1
    exact ⟨this.1, this.2, hm.2⟩
def RclS (o : Option Nat) (s : ES) (L : Nat → List Nat) (s' : ES) (L' : Nat → List Nat) : Prop := o = victimS s L ∧ match o with
  | none => s' = s ∧ L' = L
  | some i => PgS i s L s' L'
section
variable {e gn gb : Nat} {w0 : World} {s : ES} {L C : Nat → List Nat} {w : World}
set_option maxRecDepth 100000 in
set_option maxHeartbeats 1000000 in
theorem reclaim_ee (h : EE e gn gb w0 s L C w) :
    Calls Tryd.prog 31 #[.pointer (some ⟨e, 0, none⟩)] w fun y w' => ∃ o s' L' C', y = .returned (ov o) ∧ EE e gn gb w0 s' L' C' w' ∧ RclS o s L s' L' := by
  have HV := hid (victim_ee h)
  have HE := hid h.ei
  clear h
  go_enter Tryd.func31, Tryd.ntmps31
  go_wp2_with fail
  refine HV.out.mono ?_
  rintro y w1 ⟨rfl, hE, _⟩
  have HE1 := hid hE
  clear hE
  cases ho : victimS s L with
  | none =>
    as_aux_lemma =>
    have HG : Hid (∃ s' L' C', EE e gn gb w0 s' L' C' w1 ∧ RclS none s L s' L') := hid ⟨s, L, C, HE1.out, ho.symm, rfl, rfl⟩
    unfold ov
    simp only [ovV, Option.isSome]
    clear ho
    go_wp2
    refine bodyPost_ret (results_tmp2 Tryd.results31 _ _ _) rfl ?_
    obtain ⟨s', L', C', h1, h2⟩ := HG.out
    exact ⟨none, s', L', C', rfl, h1, h2⟩
  | some i =>
    as_aux_lemma =>
    obtain ⟨hi, hw, hp⟩ := HE.out.victim ho
    have HP := hid (pageOut_ee HE1.out hi hw hp)
    have Ho := hid ho
    unfold ov
    simp only [ovV, Option.isSome]
    clear ho hw hp
    go_wp2_with fail
    refine HP.out.mono ?_
    rintro y w2 hy
    obtain ⟨rfl, s', L', C', h1, h2⟩ := hy
    have HG : Hid (∃ s' L' C', EE e gn gb w0 s' L' C' w2 ∧ RclS (some i) s L s' L') := hid ⟨s', L', C', h1, Ho.out.symm, h2⟩
    clear h1 h2 HP
    go_wp2
    refine bodyPost_ret (results_tmp2 Tryd.results31 _ _ _) rfl ?_
    obtain ⟨s', L', C', h1, h2⟩ := HG.out
    exact ⟨some i, s', L', C', rfl, h1, h2⟩
end
end Go.Proofs.Qxb6500892aDoor
