/- The plain machine: which new objects live. -/
import Derived.Test.Qxb6500888aBaT8
namespace Go.Proofs.Qxb6500888a
open Go.RowKit
set_option linter.unusedSimpArgs false
set_option linter.unusedVariables false
attribute [local irreducible] nz
section
variable {G : GS} {hv0 : Nat → List Nat} {A : Nat → Prop} {I : List Nat} {p : GS × (Nat → List Nat)}
theorem births_spec0 (hc : ∀ x, G.cnt x ≤ 3) (hA : ∀ o, A o → G.cnt o = 0 → ∀ r ∈ refL G o, A r) {I0 : List Nat} : ∀ (f k : Nat) {C : Nat} {p : GS × (Nat → List Nat)}, ApS hv0 C p.1 p.2 → ApI G hv0 A (I0 ++ (p.2 4).take k) p → k ≤ (p.2 4).length → 8192 * (32768 - nz p.1.cnt) + ((p.2 4).length - k) ≤ f → ApI G hv0 A (I0 ++ (births f k p).2 4) (births f k p)
  | 0, k, C, p, hs, h, hk, hf => by
    have : (p.2 4).take k = p.2 4 := List.take_of_length_le (by omega)
    rw [this] at h
    exact h
  | f + 1, k, C, p, hs, h, hk, hf => by
    unfold births
    by_cases hlt : k < (p.2 4).length
    · rw [if_pos hlt]
      obtain ⟨o, ho⟩ : ∃ o, (p.2 4).getD k 0 = o := ⟨_, rfl⟩
      have hget : (p.2 4)[k]? = some o := by rw [← ho, List.getD_eq_getElem?_getD, List.getElem?_eq_getElem hlt]; rfl
      have hmem : o ∈ p.2 4 := List.mem_of_getElem? hget
      have hAo : A o := by
        rw [h.b4] at hmem
        obtain ⟨b, hb, hr⟩ := List.mem_flatMap.1 hmem
        exact hA b (h.a b ((h.b5 b).1 hb).2) ((h.b5 b).1 hb).1 o hr
      have hin := hs.r o hmem
      rw [ho]
      have hext := h.ext o
      have hnz := nz_inc (G := p.1) hin.1 hin.2
      have hle := nz_le (incG p.1 o).cnt
      have hrl : (refL G o).length ≤ 8192 := by
        have h1 := hs.ok.sz hin.1 hin.2
        have h2 := refP_len p.1 o (rfOf p.1 o)
        have h3 : refL p.1 o = refL G o := h.ref o
        have h4 : (refL p.1 o).length ≤ rfOf p.1 o := h2
        rw [h3] at h4
        omega
      have htk : ((incP p o).2 4).take (k + 1) = (p.2 4).take k ++ [o] := by
        rw [hext, List.take_append_of_le_length (by omega), List.take_add_one, hget]
        rfl
      have hlen : ((incP p o).2 4).length = (p.2 4).length + (if p.1.cnt o = 0 then (refL G o).length else 0) := by
        rw [hext, List.length_append]
        split <;> rfl
      refine births_spec0 hc hA f (k + 1) (p := incP p o) (hs.step hin.1 hin.2) ?_ (by omega) ?_
      · rw [htk, ← List.append_assoc]
        exact h.inc hAo hc
      · rw [hlen]
        show 8192 * (32768 - nz (incG p.1 o).cnt) + _ ≤ f
        by_cases h0 : p.1.cnt o = 0
        · rw [if_pos h0] at hnz ⊢
          omega
        · rw [if_neg h0] at hnz ⊢
          omega
    · rw [if_neg hlt]
      have : (p.2 4).take k = p.2 4 := List.take_of_length_le (by omega)
      rw [this] at h
      exact h
end
theorem apply_spec0 {t : Nat} {G : GS} {B : BS} (h : InvM t G B) {A : Nat → Prop} (hA : ∀ o, A o → G.cnt o = 0 → ∀ r ∈ refL G o, A r) (h0 : ∀ o ∈ hv3P G B 0, A o) (h2 : ∀ o ∈ hv3P G B 2, A o) :
    ApI G (hv3P G B) A (hv3P G B 0 ++ hv3P G B 2 ++ (applyP (G, hv3P G B)).2 4) (applyP (G, hv3P G B)) := by
  have hb := h.bo
  have hr0 : ∀ o ∈ hv3P G B 0, 65536 ≤ o ∧ o < 98304 := fun o ho => by rw [hv3_lo G B (by decide)] at ho; exact hvK_in0 h.ok.wd hb.lf 4 (Nat.le_refl _) o ho
  have hr2 : ∀ o ∈ hv3P G B 2, 65536 ≤ o ∧ o < 98304 := fun o ho => by
    rw [hv3_2] at ho
    obtain ⟨m, hm, hmo⟩ := rootsK_mem ho
    exact hb.ro m hm o hmo
  have a0 := hv3_ap h.ok hb
  have a1 := a0.incs (p := (G, hv3P G B)) (hv3P G B 0) hr0
  have a2 := a1.incs (hv3P G B 2) hr2
  have hct := h.ok.ct
  have i0 : ApI G (hv3P G B) A [] (G, hv3P G B) := by
    refine ⟨by simp, fun x => ?_, ?_, fun x => ?_, ?_, fun _ _ _ => rfl, fun x hx => (by cases hx)⟩
    · have := hct x; simp; omega
    · show (hv3P G B 5).Nodup
      rw [hv3_mid G B (by decide) (by decide)]; exact List.nodup_nil
    · show x ∈ hv3P G B 5 ↔ _
      rw [hv3_mid G B (by decide) (by decide)]; simp
    · show hv3P G B 4 = (hv3P G B 5).flatMap (refL G)
      rw [hv3_mid G B (i := 4) (by decide) (by decide), hv3_mid G B (i := 5) (by decide) (by decide)]; rfl
  have i1 := i0.incs hct (hv3P G B 0) h0
  have i2 := i1.incs hct (hv3P G B 2) h2
  rw [List.nil_append] at i2
  have hfin := births_spec0 hct hA (I0 := hv3P G B 0 ++ hv3P G B 2) 400000000 0 a2 (by rw [List.take_zero, List.append_nil]; exact i2) (Nat.zero_le _) (by have h4 := a2.b4; have h5 := nz_le (incs (incs (G, hv3P G B) (hv3P G B 0)) (hv3P G B 2)).1.cnt; omega)
  exact hfin
/-- What an increment of a pause reaches. -/
inductive Lx (G : GS) (B : BS) : Nat → Prop
  | log {e : Nat × Nat} (he : e ∈ lgL B) (h0 : G.word (offA e.1) ≠ 0) : Lx G B (G.word (offA e.1))
  | root {r : Nat} (hr : r ∈ rootsK B 4) : Lx G B r
  | fld {p r : Nat} (hp : Lx G B p) (hc : G.cnt p = 0) (hr : r ∈ refL G p) : Lx G B r
section
variable {G G' : GS} {B B' : BS} {atp : Nat → Nat} {Z : Nat → Prop} {t : Nat} {hv : Nat → List Nat} {I : List Nat}
theorem CI.lx_Ac (h : CI G B atp Z) {x : Nat} (hx : Lx G B x) : Ac B Z x := by
  induction hx with
  | log he h0 =>
    rcases h.log_Ac _ he with h1 | h1
    · exact absurd h1 h0
    · exact h1
  | root hr =>
    obtain ⟨m, hm, hx2⟩ := rootsK_mem hr
    exact h.y1 m hm _ hx2
  | fld hp hc hr ih => exact h.ref_Ac _ ih _ hr
theorem pause_least (hI : InvM t G B) (h : CI G B atp Z) : ∀ x ∈ (pauseP G B).2.2 0 ++ (pauseP G B).2.2 2 ++ (pauseP G B).2.2 4, Lx G B x := by
  have hap := apply_spec0 hI (A := Lx G B) (fun o ho hc r hr => .fld ho hc hr) (fun o ho => by
    rw [hv3_0l] at ho
    obtain ⟨h1, h2⟩ := List.mem_filter.1 ho
    obtain ⟨e, he, rfl⟩ := List.mem_map.1 h1
    exact .log he (by simpa using h2)) (fun o ho => by
    rw [hv3_2] at ho
    exact .root ho)
  obtain ⟨p4, hp4⟩ : ∃ p, applyP (G, hv3P G B) = p := ⟨_, rfl⟩
  rw [hp4] at hap
  have e22 : (pauseP G B).2.2 = (reapK B p4 4).2 := by
    show (reapK B (applyP (G, hv3P G B)) 4).2 = _
    rw [hp4]
  have hhd4 : p4.1.head = G.head := by rw [hap.g]
  have hrp := reap_spec (G4 := p4.1) (hv := p4.2) B (by rw [hhd4]; exact h.dj) h.nd (fun x hx => by rw [hhd4]; exact h.fz x hx)
  have e4 : (pauseP G B).2.2 4 = p4.2 4 := by
    rw [e22]
    exact hrp.k 4 (by decide)
  have e0 : (pauseP G B).2.2 0 = hv3P G B 0 := pause_hv hI (by decide) (by decide) (by decide)
  have e2 : (pauseP G B).2.2 2 = hv3P G B 2 := pause_hv hI (by decide) (by decide) (by decide)
  rw [e0, e2, e4]
  exact hap.a
/-- The search for the new objects that live, under way. -/
structure DfP (G : GS) (B : BS) (hv : Nat → List Nat) (S td : List Nat) : Prop where
  nd : S.Nodup
  fr : ∀ x ∈ S, x ∈ frL B
  so : ∀ x ∈ S, x ∈ hv 5
  tf : ∀ x ∈ td, x ∈ frL B → x ∈ hv 5
  co : ∀ x, x ∈ frL B → (x ∈ rootsK B 4 ∨ (∃ e ∈ lgL B, x = G.word (offA e.1)) ∨ (∃ p ∈ S, x ∈ refL G p)) → x ∈ S ∨ x ∈ td
theorem DfP.start (hI : InvM t G B) (h : CI G B atp Z) (f : PaF G B G' B' hv I) : DfP G B hv [] (rootsK B 4 ++ (lgL B).map fun e => G.word (offA e.1)) := by
  refine ⟨List.nodup_nil, fun x hx => (by cases hx), fun x hx => (by cases hx), fun x hx hf => ?_, fun x hf hx => ?_⟩
  · rw [f.b5]
    refine ⟨hf, ?_⟩
    rw [f.i, List.mem_append, List.mem_append]
    left
    rcases List.mem_append.1 hx with h1 | h1
    · right; rw [f.h2]; exact h1
    · left
      rw [f.h0]
      refine List.mem_filter.2 ⟨h1, ?_⟩
      have := h.ok.head_in (h.fz x hf)
      simp
      omega
  · right
    rcases hx with h1 | ⟨e, he, rfl⟩ | ⟨p, hp, _⟩
    · exact List.mem_append.2 (.inl h1)
    · exact List.mem_append.2 (.inr (List.mem_map.2 ⟨e, he, rfl⟩))
    · cases hp
theorem DfP.skip {S td : List Nat} {x : Nat} (h : DfP G B hv S (td ++ [x])) (hx : x ∉ frL B ∨ x ∈ S) : DfP G B hv S td := by
  refine ⟨h.nd, h.fr, h.so, fun y hy => h.tf y (by simp [hy]), fun y hf hy => ?_⟩
  rcases h.co y hf hy with h1 | h1
  · exact .inl h1
  · rcases List.mem_append.1 h1 with h2 | h2
    · exact .inr h2
    · simp at h2
      subst h2
      rcases hx with h3 | h3
      · exact absurd hf h3
      · exact .inl h3
theorem DfP.take {S td : List Nat} {x : Nat} (h : DfP G B hv S (td ++ [x])) (f : PaF G B G' B' hv I) (hx : x ∈ frL B) (hn : x ∉ S) : DfP G B hv (S ++ [x]) (td ++ refL G x) := by
  have h5 : x ∈ hv 5 := h.tf x (by simp) hx
  refine ⟨?_, fun y hy => ?_, fun y hy => ?_, fun y hy hf => ?_, fun y hf hy => ?_⟩
  · rw [List.nodup_append]
    exact ⟨h.nd, by simp, fun a ha b hb e => by simp at hb; subst hb; subst e; exact hn ha⟩
  · rcases List.mem_append.1 hy with h1 | h1
    · exact h.fr y h1
    · simp at h1; subst h1; exact hx
  · rcases List.mem_append.1 hy with h1 | h1
    · exact h.so y h1
    · simp at h1; subst h1; exact h5
  · rcases List.mem_append.1 hy with h1 | h1
    · exact h.tf y (by simp [h1]) hf
    · rw [f.b5]
      refine ⟨hf, ?_⟩
      rw [f.i, List.mem_append, f.b4]
      exact .inr (List.mem_flatMap.2 ⟨x, h5, h1⟩)
  · have key : (y ∈ S ∨ y ∈ td ++ [x]) ∨ y ∈ refL G x := by
      rcases hy with h1 | h1 | ⟨p, hp, hr⟩
      · exact .inl (h.co y hf (.inl h1))
      · exact .inl (h.co y hf (.inr (.inl h1)))
      · rcases List.mem_append.1 hp with h2 | h2
        · exact .inl (h.co y hf (.inr (.inr ⟨p, h2, hr⟩)))
        · simp at h2; subst h2; exact .inr hr
    rcases key with (h1 | h1) | h1
    · left; simp [h1]
    · rcases List.mem_append.1 h1 with h2 | h2
      · right; simp [h2]
      · left; simp at h2; simp [h2]
    · right; simp [h1]
theorem DfP.end_ {S : List Nat} (h : DfP G B hv S []) (hI : InvM t G B) (hc : CI G B atp Z) (f : PaF G B G' B' hv I) (hl : ∀ x ∈ hv 0 ++ hv 2 ++ hv 4, Lx G B x) : (hv 5).Perm S := by
  have key : ∀ x, Lx G B x → x ∈ frL B → x ∈ S := fun x hx => by
    induction hx with
    | log he h0 => exact fun hf => (h.co _ hf (.inr (.inl ⟨_, he, rfl⟩))).resolve_right (by simp)
    | root hr => exact fun hf => (h.co _ hf (.inl hr)).resolve_right (by simp)
    | @fld p r hp hc0 hr ih =>
      intro hf
      have hpf : p ∈ frL B := by
        rcases hc.lx_Ac hp with h1 | h1
        · have := (hc.ce1 p (hc.z1 p h1)).1; omega
        · exact h1
      exact (h.co _ hf (.inr (.inr ⟨p, ih hpf, hr⟩))).resolve_right (by simp)
  rw [List.perm_ext_iff_of_nodup f.n5 h.nd]
  intro x
  constructor
  · intro hx
    have h1 := (f.b5 x).1 hx
    have h2 := h1.2
    rw [f.i] at h2
    exact key x (hl x h2) h1.1
  · exact h.so x
end
end Go.Proofs.Qxb6500888a
