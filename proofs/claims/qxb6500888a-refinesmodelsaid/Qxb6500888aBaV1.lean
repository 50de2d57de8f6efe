/- The plain machine: what every step keeps (ranges, small numbers). -/
import Derived.Test.Qxb6500888aBaW4
namespace Go.Proofs.Qxb6500888a
open Go.RowKit
set_option linter.unusedSimpArgs false
set_option linter.unusedVariables false

attribute [local irreducible] nz fillF
/-- How many calls the counts may still see for births. -/
@[irreducible] def phi (G : GS) : Nat := G.calls.length + 8192 * (32768 - nz G.cnt)
theorem phi_eq {G G' : GS} (h1 : G'.calls = G.calls) (h2 : G'.cnt = G.cnt) : phi G' = phi G := by
  unfold phi
  rw [h1, h2]
/-- What t steps may add. -/
@[irreducible] def bnd (t : Nat) : Nat := t * 600000
theorem bnd_s (t : Nat) : bnd (t + 1) = bnd t + 600000 := by unfold bnd; omega
theorem bnd_mono {t s : Nat} (h : t ≤ s) : bnd t ≤ bnd s := by unfold bnd; exact Nat.mul_le_mul_right _ h
theorem bnd_top {t : Nat} (h : t ≤ 65536) : bnd t ≤ 39321600000 := by unfold bnd; omega
/-- The machine after t steps. -/
structure InvM (t : Nat) (G : GS) (B : BS) : Prop where
  ok : GOk G
  ph : phi G ≤ 268435456 + bnd t
  de : G.deaths.length ≤ bnd t
  pe : ∀ a, G.pend a ≤ bnd t
  er : G.errs ≤ bnd t
  bo : BOk B (1000 + t)
theorem InvM.gb {t : Nat} {G : GS} {B : BS} (h : InvM t G B) (ht : t ≤ 65536) : GB G 90000000000 := by
  have h1 := h.ph
  unfold phi at h1
  have h2 := bnd_top ht
  have h3 := h.de
  have h4 := h.er
  exact ⟨by omega, by omega, fun a => by have := h.pe a; omega, by omega⟩
theorem BOk.mono {B : BS} {N M : Nat} (h : BOk B N) (hm : N ≤ M) : BOk B M := ⟨h.lf, h.lo, h.ro, h.fr, h.la, fun m => Nat.le_trans (h.nl m) hm, fun m => Nat.le_trans (h.nf m) hm, h.nr, h.na, h.tr, Nat.le_trans h.ep hm, Nat.le_trans h.md hm, h.hi⟩
theorem InvM.succ {t : Nat} {G : GS} {B : BS} (h : InvM t G B) : InvM (t + 1) G B := by
  have h2 := bnd_s t
  have h3 := h.ph
  have h4 := h.de
  have h5 := h.er
  exact ⟨h.ok, by omega, by omega, fun a => by have := h.pe a; omega, by omega, h.bo.mono (by omega)⟩
/-- Another barrier over the same ground. -/
theorem InvM.bar {t : Nat} {G : GS} {B B' : BS} (h : InvM t G B) (hb : BOk B' (1000 + (t + 1))) : InvM (t + 1) G B' := by
  have h1 := h.succ
  exact ⟨h1.ok, h1.ph, h1.de, h1.pe, h1.er, hb⟩
theorem GOk.head_in {G : GS} (h : GOk G) {a : Nat} (ha : (G.head a).isSome = true) : 65536 ≤ a ∧ a < 98304 := by
  obtain ⟨⟨n, q⟩, e⟩ := Option.isSome_iff_exists.1 ha
  have := h.hd a n q e
  have := offA_in this.1
  omega
theorem BOk.push {G : GS} {B : BS} {N : Nat} (h : BOk B N) (hok : GOk G) (x : Int) (ref : Nat) : BOk (pushS G B x ref).2 N := by
  unfold pushS
  split
  · exact h
  · split
    · exact h
    · split
      · exact h
      · rename_i h1 h2 h3
        have hin := hok.head_in (a := ref) (by cases e : (G.head ref).isSome with | true => rfl | false => exact absurd e h2)
        have hx : x.toNat < 4 := by unfold badM at h1; omega
        have hl := h.nr x.toNat
        refine ⟨h.lf, h.lo, fun m hm o ho => ?_, h.fr, h.la, h.nl, h.nf, fun m => ?_, h.na, h.tr, h.ep, h.md, fun m hm => ?_⟩
        · have ho' : o ∈ fup B.roots x.toNat (B.roots x.toNat ++ [ref]) m := ho
          by_cases e : m = x.toNat
          · subst e
            rw [fup_self] at ho'
            rcases List.mem_append.1 ho' with h4 | h4
            · exact h.ro _ hm o h4
            · simp at h4; subst h4; exact hin
          · rw [fup_ne _ _ e] at ho'; exact h.ro m hm o ho'
        · show (fup B.roots x.toNat (B.roots x.toNat ++ [ref]) m).length ≤ 64
          by_cases e : m = x.toNat
          · subst e; rw [fup_self]; simp; omega
          · rw [fup_ne _ _ e]; exact h.nr m
        · refine ⟨(h.hi m hm).1, ?_, (h.hi m hm).2.2⟩
          show fup B.roots x.toNat _ m = []
          rw [fup_ne _ _ (by omega)]
          exact (h.hi m hm).2.1
theorem BOk.pop {B : BS} {N : Nat} (h : BOk B N) (x : Int) : BOk (popS B x).2 N := by
  unfold popS
  split
  · exact h
  · split
    · exact h
    · rename_i h1 h2
      have hx : x.toNat < 4 := by unfold badM at h1; omega
      refine ⟨h.lf, h.lo, fun m hm o ho => ?_, h.fr, h.la, h.nl, h.nf, fun m => ?_, h.na, h.tr, h.ep, h.md, fun m hm => ?_⟩
      · have ho' : o ∈ fup B.roots x.toNat (B.roots x.toNat).dropLast m := ho
        by_cases e : m = x.toNat
        · subst e
          rw [fup_self] at ho'
          exact h.ro _ hm o ((List.dropLast_sublist _).subset ho')
        · rw [fup_ne _ _ e] at ho'; exact h.ro m hm o ho'
      · show (fup B.roots x.toNat (B.roots x.toNat).dropLast m).length ≤ 64
        by_cases e : m = x.toNat
        · subst e; rw [fup_self]; have := h.nr x.toNat; simp; omega
        · rw [fup_ne _ _ e]; exact h.nr m
      · refine ⟨(h.hi m hm).1, ?_, (h.hi m hm).2.2⟩
        show fup B.roots x.toNat _ m = []
        rw [fup_ne _ _ (by omega)]
        exact (h.hi m hm).2.1
theorem InvM.write {t : Nat} {G : GS} {B : BS} (h : InvM t G B) (x : Int) (obj : Nat) (i : Int) (ref : Nat) : InvM (t + 1) (writeS G B x obj i ref).2.1 (writeS G B x obj i ref).2.2 := by
  unfold writeS
  split
  · exact h.succ
  · split
    · exact h.succ
    · split
      · exact h.succ
      · rename_i h1 h2 h3
        have hx : x.toNat < 4 := by unfold badM at h1; omega
        have hc : (fieldS G obj i).2 = 0 := Classical.byContradiction h2
        obtain ⟨n, q, k, hh, hik, hk, e1, e2, e3, e4⟩ := fieldS_ok h.ok hc
        have hr : ref = 0 ∨ (65536 ≤ ref ∧ ref < 98304) := by
          by_cases e : ref = 0
          · exact .inl e
          · right
            refine h.ok.head_in ?_
            cases e5 : (G.head ref).isSome with
            | true => rfl
            | false => exact absurd ⟨e5, e⟩ h3
        have h' := h.succ
        have hb := h'.bo
        have hok : GOk (wrG G (offA (fieldS G obj i).1) ref) := ⟨h.ok.hd, fun j hj => by
          show fup G.word _ ref j = 0 ∨ _
          by_cases e : j = offA (fieldS G obj i).1
          · subst e
            have : (wrG G (offA (fieldS G obj i).1) ref).word (offA (fieldS G obj i).1) = ref := fup_self _ _ _
            rw [fup_self, this]
            exact hr
          · have : (wrG G (offA (fieldS G obj i).1) ref).word j = G.word j := fup_ne _ _ e
            rw [fup_ne _ _ e, this]
            exact h.ok.wd j hj, h.ok.pd, h.ok.ct⟩
        refine ⟨hok, (by have e5 := phi_eq (G := G) (G' := wrG G (offA (fieldS G obj i).1) ref) rfl rfl; show phi (wrG G (offA (fieldS G obj i).1) ref) ≤ _; rw [e5]; exact h'.ph), h'.de, h'.pe, h'.er, ?_⟩
        show BOk (wrB G B x.toNat (fieldS G obj i).1 (offA (fieldS G obj i).1)) _
        unfold wrB
        split
        · exact hb
        · have hf1 : 65536 ≤ (fieldS G obj i).1 ∧ (fieldS G obj i).1 < 98304 := by rw [e1]; omega
          have hf2 := h.ok.wd (offA (fieldS G obj i).1) (by rw [e4]; exact e3)
          generalize (fieldS G obj i).1 = f at hf1 hf2
          generalize G.word (offA f) = wd at hf2
          have hmem : ∀ m, ∀ p ∈ fup B.logs x.toNat (B.logs x.toNat ++ [(f, wd)]) m, p ∈ B.logs m ∨ (p = (f, wd)) := fun m p hp => by
            by_cases e : m = x.toNat
            · subst e
              rw [fup_self] at hp
              rcases List.mem_append.1 hp with h4 | h4
              · exact .inl h4
              · simp at h4; exact .inr h4
            · rw [fup_ne _ _ e] at hp; exact .inl hp
          refine ⟨fun m hm p hp => ?_, fun m hm p hp => ?_, hb.ro, hb.fr, hb.la, fun m => ?_, hb.nf, hb.nr, hb.na, hb.tr, hb.ep, ?_, fun m hm => ?_⟩
          · rcases hmem m p hp with h4 | h4
            · exact hb.lf m hm p h4
            · rw [h4]; exact hf1
          · rcases hmem m p hp with h4 | h4
            · exact hb.lo m hm p h4
            · rw [h4]; exact hf2
          · show (fup B.logs x.toNat (B.logs x.toNat ++ [(f, wd)]) m).length ≤ _
            have h5 := h.bo.nl m
            by_cases e : m = x.toNat
            · subst e; rw [fup_self]; simp; omega
            · rw [fup_ne _ _ e]; omega
          · show (if (B.logs x.toNat).length % 16 = 0 ∧ B.made = needN B then B.made + 1 else B.made) ≤ _
            have h5 := h.bo.md
            split <;> omega
          · refine ⟨?_, (hb.hi m hm).2⟩
            show fup B.logs x.toNat _ m = []
            rw [fup_ne _ _ (by omega)]
            exact (hb.hi m hm).1
theorem InvM.push {t : Nat} {G : GS} {B : BS} (h : InvM t G B) (x : Int) (ref : Nat) : InvM t G (pushS G B x ref).2 := ⟨h.ok, h.ph, h.de, h.pe, h.er, h.bo.push h.ok x ref⟩
theorem ite_P {α : Type} {P : α → Prop} {c : Prop} [Decidable c] {a b : α} (h1 : P a) (h2 : P b) : P (if c then a else b) := by
  split
  · exact h1
  · exact h2
/-- What a step that names an object may come to. -/
theorem namedS_P (G : GS) (B : BS) (o : OpP) {P : (Nat × Nat) × GS × BS → Prop} (h1 : ∀ c, P ((c, 0), G, B)) (h2 : ∀ x r p, P (p, G, (pushS G B x r).2)) (h3 : ∀ x a i r c, P ((c, 0), (writeS G B x a i r).2)) : P (namedS G B o) :=
  ite_P (h1 _) (ite_P (h2 _ _ _) (ite_P (h2 _ _ _) (ite_P (ite_P (h1 _) (h2 _ _ _)) (ite_P (h1 _) (h3 _ _ _ _ _)))))
theorem InvM.named {t : Nat} {G : GS} {B : BS} (h : InvM t G B) (o : OpP) : InvM (t + 1) (namedS G B o).2.1 (namedS G B o).2.2 :=
  namedS_P G B o (P := fun r => InvM (t + 1) r.2.1 r.2.2) (fun _ => h.succ) (fun x r _ => h.succ.push x r) (fun x a i r _ => h.write x a i r)
theorem InvM.alloc {t : Nat} {G : GS} {B : BS} (h : InvM t G B) (x sz rf : Int) : InvM (t + 1) (alocS G B x sz rf).2.1 (alocS G B x sz rf).2.2 := by
  have h' := h.succ
  unfold alocS
  split
  · exact h'
  · split
    · exact h'
    · split
      · exact h'
      · rename_i h1 h2 h3
        cases hp : placeA G.tk (1 + sz.toNat) with
        | none => exact h'
        | some s =>
          dsimp only
          have hx : x.toNat < 4 := by unfold badM at h1; omega
          have hps := placeA_some hp
          have hso : offA (65536 + s) = s := offA_add s
          have hb := h'.bo
          refine ⟨⟨fun a n q ha => ?_, fun i hi => ?_, h.ok.pd, h.ok.ct⟩, (by have e5 := phi_eq (G := G) (G' := newG G s sz.toNat rf.toNat) rfl rfl; show phi (newG G s sz.toNat rf.toNat) ≤ _; rw [e5]; exact h'.ph), h'.de, h'.pe, h'.er, ?_⟩
          · have ha' : fup G.head (65536 + s) (some (sz.toNat, rf.toNat)) a = some (n, q) := ha
            by_cases e : a = 65536 + s
            · subst e
              rw [fup_self] at ha'
              cases ha'
              exact ⟨by omega, by rw [hso]; omega, by omega, by omega⟩
            · rw [fup_ne _ _ e] at ha'; exact h.ok.hd a n q ha'
          · show fillF G.word s (sz.toNat + 1) 0 i = 0 ∨ _
            by_cases e : s ≤ i ∧ i < s + (sz.toNat + 1)
            · left; exact fillF_in _ _ e
            · have e2 : (newG G s sz.toNat rf.toNat).word i = G.word i := fillF_out _ _ e
              rw [e2, show fillF G.word s (sz.toNat + 1) 0 i = G.word i from fillF_out _ _ e]
              exact h.ok.wd i hi
          · refine ⟨hb.lf, hb.lo, hb.ro, fun m hm o ho => ?_, hb.la, hb.nl, fun m => ?_, hb.nr, hb.na, hb.tr, hb.ep, hb.md, fun m hm => ?_⟩
            · have ho' : o ∈ fup B.fresh x.toNat (B.fresh x.toNat ++ [65536 + s]) m := ho
              by_cases e : m = x.toNat
              · subst e
                rw [fup_self] at ho'
                rcases List.mem_append.1 ho' with h4 | h4
                · exact hb.fr _ hm o h4
                · simp at h4; omega
              · rw [fup_ne _ _ e] at ho'; exact hb.fr m hm o ho'
            · show (fup B.fresh x.toNat (B.fresh x.toNat ++ [65536 + s]) m).length ≤ _
              have h5 := h.bo.nf m
              by_cases e : m = x.toNat
              · subst e; rw [fup_self]; simp; omega
              · rw [fup_ne _ _ e]; omega
            · refine ⟨(hb.hi m hm).1, (hb.hi m hm).2.1, ?_⟩
              show fup B.fresh x.toNat _ m = []
              rw [fup_ne _ _ (by omega)]
              exact (hb.hi m hm).2.2
end Go.Proofs.Qxb6500888a
