/- The plain machine: what the increments of a pause come to. -/
import Derived.Test.Qxb6500888aBaT3
namespace Go.Proofs.Qxb6500888a
open Go.RowKit
set_option linter.unusedSimpArgs false
set_option linter.unusedVariables false
attribute [local irreducible] nz
/-- The increments I have been applied. -/
structure ApI (G : GS) (hv0 : Nat → List Nat) (A : Nat → Prop) (I : List Nat) (p : GS × (Nat → List Nat)) : Prop where
  g : p.1 = { G with calls := G.calls ++ I.map (fun x => (true, x)), cnt := p.1.cnt }
  c : ∀ x, p.1.cnt x = min 3 (G.cnt x + I.count x)
  n5 : (p.2 5).Nodup
  b5 : ∀ x, x ∈ p.2 5 ↔ G.cnt x = 0 ∧ x ∈ I
  b4 : p.2 4 = (p.2 5).flatMap (refL G)
  k : ∀ i, i ≠ 4 → i ≠ 5 → p.2 i = hv0 i
  a : ∀ x ∈ I, A x
section
variable {G : GS} {hv0 : Nat → List Nat} {A : Nat → Prop} {I : List Nat} {p : GS × (Nat → List Nat)}
theorem ApI.ref (h : ApI G hv0 A I p) (o : Nat) : refL p.1 o = refL G o := by
  rw [h.g]
  rfl
theorem ApI.ext (h : ApI G hv0 A I p) (o : Nat) : (incP p o).2 4 = p.2 4 ++ (if p.1.cnt o = 0 then refL G o else []) := by
  show incH p.1 p.2 o 4 = _
  unfold incH
  split
  · rw [fup_self, h.ref]
  · rw [List.append_nil]
theorem ApI.inc (h : ApI G hv0 A I p) {o : Nat} (ho : A o) (hc : ∀ x, G.cnt x ≤ 3) : ApI G hv0 A (I ++ [o]) (incP p o) := by
  have hcn : ∀ x, (incG p.1 o).cnt x = min 3 (G.cnt x + (I ++ [o]).count x) := fun x => by
    show (if p.1.cnt o < 3 then fup p.1.cnt o (p.1.cnt o + 1) else p.1.cnt) x = _
    rw [List.count_append, List.count_singleton]
    have h1 := h.c x
    have h2 := h.c o
    have h3 := hc x
    by_cases e : x = o
    · subst e
      simp only [beq_self_eq_true, if_true]
      split
      · rw [fup_self]; omega
      · omega
    · have e' : (o == x) = false := by simp; exact fun h => e h.symm
      rw [e']
      simp only [Bool.false_eq_true, if_false]
      split
      · rw [fup_ne _ _ e]; omega
      · omega
  have hz : p.1.cnt o = 0 ↔ (G.cnt o = 0 ∧ o ∉ I) := by
    have h2 := h.c o
    rw [← List.count_eq_zero (a := o) (l := I)]
    omega
  refine ⟨?_, hcn, ?_, fun x => ?_, ?_, fun i h4 h5 => ?_, fun x hx => ?_⟩
  · show incG p.1 o = { G with calls := G.calls ++ (I ++ [o]).map (fun x => (true, x)), cnt := (incG p.1 o).cnt }
    have hg := h.g
    unfold incG
    dsimp only
    obtain ⟨c, hcc⟩ : ∃ c, (if p.1.cnt o < 3 then fup p.1.cnt o (p.1.cnt o + 1) else p.1.cnt) = c := ⟨_, rfl⟩
    rw [hcc]
    rw [hg]
    simp
  · show (incH p.1 p.2 o 5).Nodup
    unfold incH
    split
    · rename_i h0
      rw [fup_ne _ _ (by decide)]
      unfold hput
      rw [fup_self, List.nodup_append]
      refine ⟨h.n5, by simp, fun a ha b hb e => ?_⟩
      rw [List.mem_singleton.1 hb] at e
      subst e
      exact (hz.1 h0).2 ((h.b5 a).1 ha).2
    · exact h.n5
  · show x ∈ incH p.1 p.2 o 5 ↔ _
    unfold incH
    split
    · rename_i h0
      rw [fup_ne _ _ (by decide)]
      unfold hput
      rw [fup_self, List.mem_append, List.mem_append, h.b5, List.mem_singleton]
      constructor
      · rintro (h1 | rfl)
        · exact ⟨h1.1, .inl h1.2⟩
        · exact ⟨(hz.1 h0).1, .inr rfl⟩
      · rintro ⟨h1, h2 | h2⟩
        · exact .inl ⟨h1, h2⟩
        · exact .inr h2
    · rename_i h0
      rw [h.b5, List.mem_append, List.mem_singleton]
      constructor
      · rintro ⟨h1, h2⟩; exact ⟨h1, .inl h2⟩
      · rintro ⟨h1, h2 | h2⟩
        · exact ⟨h1, h2⟩
        · subst h2
          refine ⟨h1, ?_⟩
          apply Classical.byContradiction
          intro hn
          exact h0 (hz.2 ⟨h1, hn⟩)
  · have e5 : (incP p o).2 5 = if p.1.cnt o = 0 then p.2 5 ++ [o] else p.2 5 := by
      show incH p.1 p.2 o 5 = _
      unfold incH
      split
      · rw [fup_ne _ _ (by decide)]
        unfold hput
        rw [fup_self]
      · rfl
    rw [h.ext, e5, h.b4]
    split
    · rw [List.flatMap_append]; simp
    · rw [List.append_nil]
  · show incH p.1 p.2 o i = _
    unfold incH
    split
    · rw [fup_ne _ _ h4]
      unfold hput
      rw [fup_ne _ _ h5]
      exact h.k i h4 h5
    · exact h.k i h4 h5
  · rcases List.mem_append.1 hx with h1 | h1
    · exact h.a x h1
    · rw [List.mem_singleton.1 h1]; exact ho
theorem ApI.incs (hc : ∀ x, G.cnt x ≤ 3) : ∀ (l : List Nat) {I : List Nat} {p : GS × (Nat → List Nat)}, ApI G hv0 A I p → (∀ o ∈ l, A o) → ApI G hv0 A (I ++ l) (incs p l)
  | [], I, p, h, _ => by rw [List.append_nil]; exact h
  | o :: l, I, p, h, hl => by
    have h1 := ApI.incs hc l (h.inc (hl o (by simp)) hc) (fun x hx => hl x (by simp [hx]))
    rw [List.append_assoc] at h1
    exact h1
theorem births_spec (hc : ∀ x, G.cnt x ≤ 3) (hA : ∀ o, A o → ∀ r ∈ refL G o, A r) {I0 : List Nat} : ∀ (f k : Nat) {C : Nat} {p : GS × (Nat → List Nat)}, ApS hv0 C p.1 p.2 → ApI G hv0 A (I0 ++ (p.2 4).take k) p → k ≤ (p.2 4).length → 8192 * (32768 - nz p.1.cnt) + ((p.2 4).length - k) ≤ f → ApI G hv0 A (I0 ++ (births f k p).2 4) (births f k p)
  | 0, k, C, p, hs, h, hk, hf => by
    have : (p.2 4).take k = p.2 4 := List.take_of_length_le (by omega)
    rw [this] at h
    exact h
  | f + 1, k, C, p, hs, h, hk, hf => by
    unfold births
    by_cases hlt : k < (p.2 4).length
    · rw [if_pos hlt]
      obtain ⟨o, ho⟩ : ∃ o, (p.2 4).getD k 0 = o := ⟨_, rfl⟩
      have hget : (p.2 4)[k]? = some o := by rw [← ho, List.getD_eq_getElem?_getD, List.getElem?_eq_getElem hlt]; rfl
      have hmem : o ∈ p.2 4 := List.mem_of_getElem? hget
      have hAo : A o := by
        rw [h.b4] at hmem
        obtain ⟨b, hb, hr⟩ := List.mem_flatMap.1 hmem
        exact hA b (h.a b ((h.b5 b).1 hb).2) o hr
      have hin := hs.r o hmem
      rw [ho]
      have hext := h.ext o
      have hnz := nz_inc (G := p.1) hin.1 hin.2
      have hle := nz_le (incG p.1 o).cnt
      have hrl : (refL G o).length ≤ 8192 := by
        have h1 := hs.ok.sz hin.1 hin.2
        have h2 := refP_len p.1 o (rfOf p.1 o)
        have h3 : refL p.1 o = refL G o := h.ref o
        have h4 : (refL p.1 o).length ≤ rfOf p.1 o := h2
        rw [h3] at h4
        omega
      have htk : ((incP p o).2 4).take (k + 1) = (p.2 4).take k ++ [o] := by
        rw [hext, List.take_append_of_le_length (by omega), List.take_add_one, hget]
        rfl
      have hlen : ((incP p o).2 4).length = (p.2 4).length + (if p.1.cnt o = 0 then (refL G o).length else 0) := by
        rw [hext, List.length_append]
        split <;> rfl
      refine births_spec hc hA f (k + 1) (p := incP p o) (hs.step hin.1 hin.2) ?_ (by omega) ?_
      · rw [htk, ← List.append_assoc]
        exact h.inc hAo hc
      · rw [hlen]
        show 8192 * (32768 - nz (incG p.1 o).cnt) + _ ≤ f
        by_cases h0 : p.1.cnt o = 0
        · rw [if_pos h0] at hnz ⊢
          omega
        · rw [if_neg h0] at hnz ⊢
          omega
    · rw [if_neg hlt]
      have : (p.2 4).take k = p.2 4 := List.take_of_length_le (by omega)
      rw [this] at h
      exact h
end
/-- All the increments of a pause. -/
theorem apply_spec {t : Nat} {G : GS} {B : BS} (h : InvM t G B) {A : Nat → Prop} (hA : ∀ o, A o → ∀ r ∈ refL G o, A r) (h0 : ∀ o ∈ hv3P G B 0, A o) (h2 : ∀ o ∈ hv3P G B 2, A o) :
    ApI G (hv3P G B) A (hv3P G B 0 ++ hv3P G B 2 ++ (applyP (G, hv3P G B)).2 4) (applyP (G, hv3P G B)) := by
  have hb := h.bo
  have hr0 : ∀ o ∈ hv3P G B 0, 65536 ≤ o ∧ o < 98304 := fun o ho => by rw [hv3_lo G B (by decide)] at ho; exact hvK_in0 h.ok.wd hb.lf 4 (Nat.le_refl _) o ho
  have hr2 : ∀ o ∈ hv3P G B 2, 65536 ≤ o ∧ o < 98304 := fun o ho => by
    rw [hv3_2] at ho
    obtain ⟨m, hm, hmo⟩ := rootsK_mem ho
    exact hb.ro m hm o hmo
  have a0 := hv3_ap h.ok hb
  have a1 := a0.incs (p := (G, hv3P G B)) (hv3P G B 0) hr0
  have a2 := a1.incs (hv3P G B 2) hr2
  have hct := h.ok.ct
  have i0 : ApI G (hv3P G B) A [] (G, hv3P G B) := by
    refine ⟨by simp, fun x => ?_, ?_, fun x => ?_, ?_, fun _ _ _ => rfl, fun x hx => (by cases hx)⟩
    · have := hct x; simp; omega
    · show (hv3P G B 5).Nodup
      rw [hv3_mid G B (by decide) (by decide)]; exact List.nodup_nil
    · show x ∈ hv3P G B 5 ↔ _
      rw [hv3_mid G B (by decide) (by decide)]; simp
    · show hv3P G B 4 = (hv3P G B 5).flatMap (refL G)
      rw [hv3_mid G B (i := 4) (by decide) (by decide), hv3_mid G B (i := 5) (by decide) (by decide)]; rfl
  have i1 := i0.incs hct (hv3P G B 0) h0
  have i2 := i1.incs hct (hv3P G B 2) h2
  rw [List.nil_append] at i2
  have hfin := births_spec hct hA (I0 := hv3P G B 0 ++ hv3P G B 2) 400000000 0 a2 (by rw [List.take_zero, List.append_nil]; exact i2) (Nat.zero_le _) (by have h4 := a2.b4; have h5 := nz_le (incs (incs (G, hv3P G B) (hv3P G B 0)) (hv3P G B 2)).1.cnt; omega)
  exact hfin
end Go.Proofs.Qxb6500888a
