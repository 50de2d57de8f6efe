/- measure. -/
import Derived.Test.Qxb6500883aGreatDoorScMa
namespace Go.Proofs.Qxb6500883aGreatDoor
open Go.RowKit
set_option linter.unusedSimpArgs false
set_option linter.unusedVariables false
/-- Measures depend on the parts alone. -/
theorem MsOf.congr {T T' : TS} {x : TR} {m : MS} (h : MsOf T x m) (hf : T'.flds = T.flds) (ho : T'.opts = T.opts) (hp : ∀ t ∈ prtT T x, T'.types[t]? = T.types[t]?) : MsOf T' x m := by
  unfold prtT at hp
  cases h with
  | @ser e y h1 h2 h3 h4 =>
    rw [if_pos h1, h2, Int.toNat_natCast] at hp
    exact .ser h1 h2 (by rw [hp e (by simp)]; exact h3) h4
  | bit h1 h2 => exact .bit h1 h2
  | con h1 h2 h3 =>
    rw [if_neg (by omega), if_pos h1] at hp
    have e : flT T' x = flT T x := by unfold flT; rw [hf]
    refine .con h1 ?_ h3
    rw [e, ← h2]
    apply List.map_congr_left
    intro f hf'
    exact hp f.typ (List.mem_map_of_mem hf')
  | uni h1 h2 h3 =>
    rw [if_neg (by omega), if_neg (by omega), if_pos h1] at hp
    have e : opT T' x = opT T x := by unfold opT; rw [ho]
    refine .uni h1 ?_ h3
    rw [e, ← h2]
    apply List.map_congr_left
    intro o ho'
    exact hp o ho'
/-- All records fit. -/
structure AllB (T : TS) : Prop where
  b : ∀ y ∈ T.types, TRb y
  f : ∀ y ∈ T.types, y.fixed = true → y.size = y.mn ∧ y.mn = y.mx
  z : ∀ y ∈ T.types, y.fixed = false → y.size = 0
  c : ∀ y ∈ T.types, y.chunks ≤ 2 ^ y.depth
theorem AllB.set {T : TS} {i : Nat} {x : TR} {m : MS} (h : AllB T) (hx : T.types[i]? = some x) (hm : MsOf T x m) (hd : m.depth ≤ 63) (hz : x.size = 0) : AllB { T with types := T.types.set i (upM x m) } := by
  have hok := hm.ok h.b h.f
  have hbx := h.b x (List.mem_of_getElem? hx)
  have hmem : ∀ y, y ∈ T.types.set i (upM x m) → y = upM x m ∨ y ∈ T.types := fun y hy => by
    rcases List.mem_or_eq_of_mem_set hy with h1 | h1
    · exact .inr h1
    · exact .inl h1
  refine ⟨fun y hy => ?_, fun y hy hf => ?_, fun y hy hf => ?_, fun y hy => ?_⟩
  · rcases hmem y hy with rfl | h1
    · refine ⟨?_, ?_, hok.mx, hd, hbx.length, hbx.kind, hok.le⟩
      · show (if m.fixed then m.mx else x.size) ≤ _
        have := hok.mx
        split
        · exact hok.mx
        · exact hbx.size
      · show m.mn ≤ _
        have := hok.mx; have := hok.le; omega
    · exact h.b y h1
  · rcases hmem y hy with rfl | h1
    · have hf : m.fixed = true := hf
      have := hok.fx hf
      refine ⟨?_, this⟩
      show (if m.fixed then m.mx else x.size) = m.mn
      rw [if_pos hf, this]
    · exact h.f y h1 hf
  · rcases hmem y hy with rfl | h1
    · have hf : m.fixed = false := hf
      show (if m.fixed then m.mx else x.size) = 0
      rw [hf]
      exact hz
    · exact h.z y h1 hf
  · rcases hmem y hy with rfl | h1
    · show m.chunks % 4294967296 ≤ 2 ^ m.depth
      exact Nat.le_trans (Nat.mod_le _ _) hok.ck
    · exact h.c y h1
/-- Where measuring stands, plainly. -/
structure MzP (T T' : TS) (vd : Nat → Nat) (errs : List (Nat × Nat)) (i : Nat) : Prop where
  s : SameS T T'
  b : AllB T'
  un : ∀ j, i ≤ j → T'.types[j]? = T.types[j]?
  lo : ∀ j, j < 8 → T'.types[j]? = T.types[j]? ∧ vd j = 0
  ok : ∀ j x, 8 ≤ j → j < i → T.types[j]? = some x → vd j = 0 → ∃ m, MsOf T' x m ∧ m.depth ≤ 63 ∧ T'.types[j]? = some (upM x m)
  ze : errs = [] → ∀ j, j < i → vd j = 0
  bad : errs ≠ [] → ∃ j x, 8 ≤ j ∧ j < i ∧ T.types[j]? = some x ∧ (∀ m, MsOf T' x m → 63 < m.depth) ∧ ∀ t ∈ prtT T x, vd t = 0
  le : errs.length ≤ i
theorem tnt_false {T : TS} {vd : Nat → Nat} {x : TR} (h : tnt T vd x = false) : ∀ t ∈ prtT T x, vd t = 0 := fun t ht => by
  unfold tnt at h
  rw [List.any_eq_false] at h
  have := h t ht
  simpa using this
theorem prt_same {T T' : TS} (h : SameS T T') (x : TR) : prtT T' x = prtT T x := by
  unfold prtT
  rw [h.flE (SameR.refl x), h.opE (SameR.refl x)]
section
variable {T T' : TS} {vd : Nat → Nat} {errs : List (Nat × Nat)} {i : Nat} {x : TR}
theorem fup_other {vd : Nat → Nat} {i j v : Nat} (h : j ≠ i) : fup vd i v j = vd j := fup_ne _ _ h
/-- Tainted. -/
theorem MzP.taint (h : MzP T T' vd errs i) (hT : TStr T) (h8 : 8 ≤ i) (hx : T.types[i]? = some x) (ht : tnt T' vd x = true) : MzP T T' (fup vd i 3) errs (i + 1) := by
  have hne : errs ≠ [] := fun he => by
    have hz := h.ze he
    unfold tnt at ht
    rw [List.any_eq_true] at ht
    obtain ⟨t, ht1, ht2⟩ := ht
    rw [prt_same h.s] at ht1
    have := (hT i x h8 hx).prt t ht1
    rw [hz t this] at ht2
    simp at ht2
  refine ⟨h.s, h.b, fun j hj => h.un j (by omega), fun j hj => ⟨(h.lo j hj).1, by rw [fup_other (by omega)]; exact (h.lo j hj).2⟩, fun j y h1 h2 h3 h4 => ?_, fun he => absurd he hne, fun _ => ?_, by have := h.le; omega⟩
  · by_cases hj : j = i
    · subst hj; rw [fup_self] at h4; cases h4
    · rw [fup_other hj] at h4
      exact h.ok j y h1 (by omega) h3 h4
  · obtain ⟨j, y, a1, a2, a3, a4, a5⟩ := h.bad hne
    refine ⟨j, y, a1, by omega, a3, a4, fun t ht => ?_⟩
    have hlt := (hT j y a1 a3).prt t ht
    rw [fup_other (by omega)]
    exact a5 t ht
/-- Measured. -/
theorem MzP.good (h : MzP T T' vd errs i) (hT : TStr T) (h8 : 8 ≤ i) (hx : T.types[i]? = some x) (hz : x.size = 0) {m : MS} (hm : MsOf T' x m) (hd : m.depth ≤ 63) : MzP T { T' with types := T'.types.set i (upM x m) } (fup vd i 0) errs (i + 1) := by
  have hx' : T'.types[i]? = some x := by rw [h.un i (Nat.le_refl _)]; exact hx
  have hlt := (List.getElem?_eq_some_iff.1 hx').1
  have hg : ∀ j, j ≠ i → (T'.types.set i (upM x m))[j]? = T'.types[j]? := fun j hj => List.getElem?_set_ne (Ne.symm hj)
  have hc : ∀ (y : TR) (j : Nat) (m' : MS), 8 ≤ j → j ≤ i → T.types[j]? = some y → MsOf T' y m' → MsOf { T' with types := T'.types.set i (upM x m) } y m' := fun y j m' h1 h2 h3 h4 => h4.congr rfl rfl (fun t ht => by
    rw [prt_same h.s] at ht
    have := (hT j y h1 h3).prt t ht
    exact hg t (by omega))
  refine ⟨h.s.set hx' (upM_same x m), h.b.set hx' hm hd hz, fun j hj => ?_, fun j hj => ⟨?_, by rw [fup_other (by omega)]; exact (h.lo j hj).2⟩, fun j y h1 h2 h3 h4 => ?_, fun he j hj => ?_, fun hne => ?_, by have := h.le; omega⟩
  · show (T'.types.set i (upM x m))[j]? = _
    rw [hg j (by omega)]; exact h.un j (by omega)
  · show (T'.types.set i (upM x m))[j]? = _
    rw [hg j (by omega)]; exact (h.lo j hj).1
  · by_cases hj : j = i
    · subst hj
      rw [hx] at h3
      cases h3
      exact ⟨m, hc x j m h8 (Nat.le_refl _) hx hm, hd, by show (T'.types.set j (upM x m))[j]? = _; rw [List.getElem?_set_self hlt]⟩
    · rw [fup_other hj] at h4
      obtain ⟨m', a1, a2, a3⟩ := h.ok j y h1 (by omega) h3 h4
      exact ⟨m', hc y j m' h1 (by omega) h3 a1, a2, by show (T'.types.set i (upM x m))[j]? = _; rw [hg j hj]; exact a3⟩
  · by_cases hj2 : j = i
    · subst hj2; rw [fup_self]
    · rw [fup_other hj2]; exact h.ze he j (by omega)
  · obtain ⟨j, y, a1, a2, a3, a4, a5⟩ := h.bad hne
    refine ⟨j, y, a1, by omega, a3, fun m' hm' => ?_, fun t ht => ?_⟩
    · refine a4 m' (hm'.congr rfl rfl (fun t ht => ?_))
      have e : prtT { T' with types := T'.types.set i (upM x m) } y = prtT T y := prt_same (h.s.set hx' (upM_same x m)) y
      rw [e] at ht
      have := (hT j y a1 a3).prt t ht
      exact (hg t (by omega)).symm
    · have := (hT j y a1 a3).prt t ht
      rw [fup_other (by omega)]
      exact a5 t ht
/-- Past a bound. -/
theorem MzP.err (h : MzP T T' vd errs i) (hT : TStr T) (h8 : 8 ≤ i) (hx : T.types[i]? = some x) (ht : tnt T' vd x = false) (hm : ∀ m, MsOf T' x m → 63 < m.depth) {v : Nat} (hv : v = 1 ∨ v = 2) (k : Nat × Nat) : MzP T T' (fup vd i v) (errs ++ [k]) (i + 1) := by
  refine ⟨h.s, h.b, fun j hj => h.un j (by omega), fun j hj => ⟨(h.lo j hj).1, by rw [fup_other (by omega)]; exact (h.lo j hj).2⟩, fun j y h1 h2 h3 h4 => ?_, fun he => by simp at he, fun _ => ?_, by have := h.le; rw [List.length_append, List.length_singleton]; omega⟩
  · by_cases hj : j = i
    · subst hj; rw [fup_self] at h4; omega
    · rw [fup_other hj] at h4
      exact h.ok j y h1 (by omega) h3 h4
  · refine ⟨i, x, h8, by omega, hx, hm, fun t ht2 => ?_⟩
    have hlt := (hT i x h8 hx).prt t ht2
    rw [fup_other (by omega)]
    have ht3 := tnt_false ht
    rw [prt_same h.s] at ht3
    exact ht3 t ht2
end
end Go.Proofs.Qxb6500883aGreatDoor
