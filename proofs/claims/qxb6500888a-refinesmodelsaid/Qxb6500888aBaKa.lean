/- The increments of a pause as a work list; how many calls and deaths a pause makes (plain). -/
import Derived.Test.Qxb6500888aBaKd
import Derived.Test.Qxb6500888aBaT9
import Derived.Test.Qxb6500888aBaL1
namespace Go.Proofs.Qxb6500888a
open Go.RowKit
set_option linter.unusedSimpArgs false
set_option linter.unusedVariables false
/-- The increments that are yet to be done. -/
structure QuP (R : GS × (Nat → List Nat)) (hv0 : Nat → List Nat) (Cm m : Nat) (p : GS × (Nat → List Nat)) (td : List Nat) : Prop where
  ex : ∃ l k n C, births n k (incs p l) = R ∧ (l = [] ∨ k = 0) ∧ k ≤ (p.2 4).length ∧ td = l ++ (p.2 4).drop k ∧ (32769 - nz p.1.cnt) * 8193 + ((p.2 4).length - k) ≤ n ∧ m = l.length + n ∧ C + m ≤ Cm ∧ ApS hv0 C p.1 p.2 ∧ ∀ o ∈ l, 65536 ≤ o ∧ o < 98304
section
variable {R : GS × (Nat → List Nat)} {hv0 : Nat → List Nat} {Cm m : Nat} {p : GS × (Nat → List Nat)} {td : List Nat}
attribute [local irreducible] nz in
theorem QuP.done (h : QuP R hv0 Cm m p []) : p = R ∧ ∃ C, C ≤ Cm ∧ ApS hv0 C p.1 p.2 := by
  obtain ⟨l, k, n, C, h1, h2, h3, h4, h5, h6, h7, h8, h9⟩ := h.ex
  obtain ⟨rfl, h10⟩ := List.append_eq_nil_iff.1 h4.symm
  have hk : ¬ k < (p.2 4).length := by
    intro hlt
    have := congrArg List.length h10
    rw [List.length_drop] at this
    simp at this
    omega
  refine ⟨?_, C, by omega, h8⟩
  rw [← h1]
  show p = births n k p
  cases n with
  | zero => rfl
  | succ n => unfold births; rw [if_neg hk]
theorem nz_inc_le {G : GS} {o : Nat} (h1 : 65536 ≤ o) (h2 : o < 98304) (ok : GOk G) (hv : Nat → List Nat) (k : Nat) (hk : k ≤ (hv 4).length) : (32769 - nz (incG G o).cnt) * 8193 + ((incH G hv o 4).length - k) ≤ (32769 - nz G.cnt) * 8193 + ((hv 4).length - k) := by
  have hn := nz_inc (G := G) h1 h2
  have hl := nz_le (incG G o).cnt
  have hs := ok.sz h1 h2
  have hrl : (refL G o).length ≤ 8192 := by
    have := refP_len G o (rfOf G o)
    unfold refL
    omega
  unfold incH
  by_cases h0 : G.cnt o = 0
  · rw [if_pos h0] at hn ⊢
    rw [fup_self, List.length_append, hn]
    rw [hn] at hl
    have e : 32769 - nz G.cnt = (32769 - (nz G.cnt + 1)) + 1 := by omega
    rw [e, Nat.add_mul]
    omega
  · rw [if_neg h0, Nat.add_zero] at hn
    rw [if_neg h0, hn]
    omega
attribute [local irreducible] nz in
theorem QuP.head {o : Nat} (h : QuP R hv0 Cm m p (o :: td)) : (65536 ≤ o ∧ o < 98304) ∧ 1 ≤ m ∧ QuP R hv0 Cm (m - 1) (incP p o) (td ++ if p.1.cnt o = 0 then refL p.1 o else []) ∧ (∃ C, C + m ≤ Cm ∧ ApS hv0 C p.1 p.2) ∧ td.length ≤ m + 268435456 := by
  obtain ⟨l, k, n, C, h1, h2, h3, h4, h5, h6, h7, h8, h9⟩ := h.ex
  have h4' : (incH p.1 p.2 o) 4 = p.2 4 ++ (if p.1.cnt o = 0 then refL p.1 o else []) := by
    unfold incH
    by_cases h0 : p.1.cnt o = 0
    · rw [if_pos h0, if_pos h0, fup_self]
    · rw [if_neg h0, if_neg h0, List.append_nil]
  have hb4 := h8.b4
  have hz := nz_le p.1.cnt
  cases l with
  | cons x l =>
    have hk0 : k = 0 := h2.resolve_left (by simp)
    subst hk0
    rw [List.drop_zero, List.cons_append] at h4
    injection h4 with e1 e2
    subst e1
    have hr := h9 o (by simp)
    have h6' : m = l.length + 1 + n := by rw [h6, List.length_cons]
    refine ⟨hr, by omega, ⟨l, 0, n, C + 1, h1, .inr rfl, Nat.zero_le _, ?_, ?_, by omega, by omega, h8.step hr.1 hr.2, fun y hy => h9 y (by simp [hy])⟩, ⟨C, h7, h8⟩, ?_⟩
    · rw [List.drop_zero]
      show _ = l ++ (incH p.1 p.2 o) 4
      rw [h4', e2, List.append_assoc]
    · have := nz_inc_le hr.1 hr.2 h8.ok p.2 0 (Nat.zero_le _)
      exact Nat.le_trans this h5
    · rw [e2, List.length_append]
      omega
  | nil =>
    rw [List.nil_append] at h4
    have hk : k < (p.2 4).length := by
      have := congrArg List.length h4
      rw [List.length_drop, List.length_cons] at this
      omega
    have e0 := List.drop_eq_getElem_cons hk
    rw [← h4] at e0
    injection e0 with e1 e2
    have hg : (p.2 4).getD k 0 = o := by rw [e1, List.getD_eq_getElem?_getD, List.getElem?_eq_getElem hk]; rfl
    have hr := h8.r o (by rw [e1]; exact List.getElem_mem hk)
    obtain ⟨n, rfl⟩ : ∃ n', n = n' + 1 := ⟨n - 1, by omega⟩
    have hb : births n (k + 1) (incP p o) = R := by
      rw [← h1]
      show _ = births (n + 1) k p
      conv => rhs; unfold births
      rw [if_pos hk, hg]
    simp only [List.length_nil, Nat.zero_add] at h6
    refine ⟨hr, by omega, ⟨[], k + 1, n, C + 1, hb, .inl rfl, ?_, ?_, ?_, by simp; omega, by omega, h8.step hr.1 hr.2, fun y hy => (by cases hy)⟩, ⟨C, h7, h8⟩, ?_⟩
    · show k + 1 ≤ ((incH p.1 p.2 o) 4).length
      rw [h4', List.length_append]; omega
    · show _ = [] ++ ((incH p.1 p.2 o) 4).drop (k + 1)
      rw [h4', List.nil_append, List.drop_append_of_le_length (by omega), e2]
    · have := nz_inc_le hr.1 hr.2 h8.ok p.2 (k + 1) (by omega)
      show (32769 - nz (incG p.1 o).cnt) * 8193 + (((incH p.1 p.2 o) 4).length - (k + 1)) ≤ n
      refine Nat.le_trans this ?_
      generalize (32769 - nz p.1.cnt) * 8193 = z at h5 ⊢
      omega
    · rw [e2, List.length_drop]
      omega
theorem QuP.start {G : GS} {hv0 : Nat → List Nat} (ok : GOk G) (h4 : hv0 4 = []) (h5 : hv0 5 = []) (h0 : ∀ o ∈ hv0 0, 65536 ≤ o ∧ o < 98304) (h2 : ∀ o ∈ hv0 2, 65536 ≤ o ∧ o < 98304) : QuP (applyP (G, hv0)) hv0 (G.calls.length + (hv0 0 ++ hv0 2).length + 400000000) ((hv0 0 ++ hv0 2).length + 400000000) (G, hv0) (hv0 0 ++ hv0 2) := by
  refine ⟨hv0 0 ++ hv0 2, 0, 400000000, G.calls.length, ?_, .inr rfl, Nat.zero_le _, ?_, ?_, rfl, by omega, ⟨ok, Nat.le_refl _, by show (hv0 5).length ≤ _; rw [h5]; simp, by show (hv0 4).length ≤ _; rw [h4]; simp, fun _ _ _ => rfl, fun o ho => by have ho' : o ∈ hv0 4 := ho; rw [h4] at ho'; cases ho'⟩, fun o ho => ?_⟩
  · unfold applyP incs
    rw [List.foldl_append]
  · show _ = _ ++ (hv0 4).drop 0
    rw [h4]; simp
  · show _ + ((hv0 4).length - 0) ≤ _
    rw [h4]
    simp only [List.length_nil]
    omega
  · rcases List.mem_append.1 ho with h | h
    · exact h0 o h
    · exact h2 o h
end
section
variable {R : GS × (Nat → List Nat)} {hv0 : Nat → List Nat} {Cm : Nat}
theorem QuP.calls : ∀ (m : Nat) {p : GS × (Nat → List Nat)} {td : List Nat}, QuP R hv0 Cm m p td → R.1.calls.length + (p.2 4).length = p.1.calls.length + td.length + (R.2 4).length
  | m, p, [], h => by
    obtain ⟨rfl, _⟩ := h.done
    simp
  | 0, p, o :: td, h => by
    have := h.head.2.1
    omega
  | m + 1, p, o :: td, h => by
    obtain ⟨_, _, h3, _⟩ := h.head
    have ih := QuP.calls m h3
    have e1 : (incP p o).1.calls.length = p.1.calls.length + 1 := by
      show (p.1.calls ++ [_]).length = _
      simp
    have e2 : (incP p o).2 4 = p.2 4 ++ (if p.1.cnt o = 0 then refL p.1 o else []) := by
      show incH p.1 p.2 o 4 = _
      unfold incH
      by_cases h0 : p.1.cnt o = 0
      · rw [if_pos h0, if_pos h0, fup_self]
      · rw [if_neg h0, if_neg h0, List.append_nil]
    rw [e1, e2, List.length_append, List.length_append] at ih
    rw [List.length_cons]
    omega
theorem reaps_len : ∀ (l : List Nat) (p : GS × (Nat → List Nat)), (reaps p l).1.calls = p.1.calls ∧ (reaps p l).1.deaths.length + (p.2 6).length = p.1.deaths.length + ((reaps p l).2 6).length ∧ ∀ i, i ≠ 6 → (reaps p l).2 i = p.2 i
  | [], p => ⟨rfl, rfl, fun _ _ => rfl⟩
  | o :: l, p => by
    have ih := reaps_len l (reap1 p o)
    show (reaps (reap1 p o) l).1.calls = _ ∧ (reaps (reap1 p o) l).1.deaths.length + _ = _ + ((reaps (reap1 p o) l).2 6).length ∧ ∀ i, i ≠ 6 → (reaps (reap1 p o) l).2 i = _
    have h1 : (reap1 p o).1.calls = p.1.calls ∧ (reap1 p o).1.deaths.length + (p.2 6).length = p.1.deaths.length + ((reap1 p o).2 6).length ∧ ∀ i, i ≠ 6 → (reap1 p o).2 i = p.2 i := by
      unfold reap1
      by_cases h0 : p.1.cnt o = 0
      · rw [if_pos h0]
        refine ⟨rfl, ?_, fun i hi => ?_⟩
        · show (p.1.deaths ++ [o]).length + _ = _ + (fup p.2 6 (p.2 6 ++ [o]) 6).length
          rw [fup_self]
          simp
          omega
        · show fup p.2 6 _ i = _
          rw [fup_ne _ _ hi]
      · rw [if_neg h0]
        exact ⟨rfl, rfl, fun _ _ => rfl⟩
    refine ⟨ih.1.trans h1.1, by have := ih.2.1; have := h1.2.1; omega, fun i hi => (ih.2.2 i hi).trans (h1.2.2 i hi)⟩
theorem decs_len : ∀ (l : List Nat) (G : GS), (decs G l).calls.length = G.calls.length + l.length ∧ (decs G l).deaths = G.deaths
  | [], G => ⟨rfl, rfl⟩
  | o :: l, G => by
    have ih := decs_len l (decG G o)
    have e : (decG G o).calls.length = G.calls.length + 1 := by
      show (G.calls ++ [_]).length = _
      simp
    refine ⟨?_, ih.2⟩
    show (decs (decG G o) l).calls.length = _
    rw [ih.1, e, List.length_cons]
    omega
/-- How many calls and deaths a pause makes. -/
theorem fin_calls {G : GS} {hv0 : Nat → List Nat} (ok : GOk G) (h4 : hv0 4 = []) (h5 : hv0 5 = []) (h6 : hv0 6 = []) (h0 : ∀ o ∈ hv0 0, 65536 ≤ o ∧ o < 98304) (h2 : ∀ o ∈ hv0 2, 65536 ≤ o ∧ o < 98304) (l : List Nat) {r : GS × (Nat → List Nat)} (hr : reaps (applyP (G, hv0)) l = r) :
    (decs (decs r.1 (r.2 1)) (r.2 3)).calls.length = G.calls.length + (r.2 0).length + (r.2 2).length + (r.2 4).length + (r.2 1).length + (r.2 3).length ∧ (decs (decs r.1 (r.2 1)) (r.2 3)).deaths.length = G.deaths.length + (r.2 6).length := by
  have q := QuP.start ok h4 h5 h0 h2
  have hc := QuP.calls _ q
  have hk : ∀ i, i ≠ 4 → i ≠ 5 → (applyP (G, hv0)).2 i = hv0 i := by
    have : ∀ (m : Nat) {p : GS × (Nat → List Nat)} {td : List Nat}, QuP (applyP (G, hv0)) hv0 (G.calls.length + (hv0 0 ++ hv0 2).length + 400000000) m p td → ∀ i, i ≠ 4 → i ≠ 5 → (applyP (G, hv0)).2 i = hv0 i := fun m => by
      induction m with
      | zero =>
        intro p td h
        cases td with
        | nil =>
          obtain ⟨h1, C, _, h3⟩ := h.done
          rw [← h1]; exact h3.k
        | cons o td => have := h.head.2.1; omega
      | succ m ih =>
        intro p td h
        cases td with
        | nil =>
          obtain ⟨h1, C, _, h3⟩ := h.done
          rw [← h1]; exact h3.k
        | cons o td => exact ih h.head.2.2.1
    exact this _ q
  have hd : (applyP (G, hv0)).1.deaths = G.deaths := applyP_keep (fun G => G.deaths) (fun _ _ => rfl) _
  have r1 := reaps_len l (applyP (G, hv0))
  rw [hr] at r1
  have d1 := decs_len (r.2 1) r.1
  have d2 := decs_len (r.2 3) (decs r.1 (r.2 1))
  have e4 : ((G, hv0) : GS × (Nat → List Nat)).2 4 = [] := h4
  rw [e4, List.length_nil, List.length_append] at hc
  have e0 := r1.2.2 0 (by decide)
  have e2 := r1.2.2 2 (by decide)
  have e44 := r1.2.2 4 (by decide)
  rw [hk 0 (by decide) (by decide)] at e0
  rw [hk 2 (by decide) (by decide)] at e2
  refine ⟨?_, ?_⟩
  · rw [d2.1, d1.1, r1.1, e0, e2, e44]
    have : (G, hv0).1.calls.length = G.calls.length := rfl
    omega
  · rw [d2.2, d1.2]
    have h6' := r1.2.1
    rw [hk 6 (by decide) (by decide), h6, hd] at h6'
    simpa using h6'
end
end Go.Proofs.Qxb6500888a
