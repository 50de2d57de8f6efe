/- The phases of checking, one after the other. -/
import Derived.Test.Qxb6500883aGreatDoorScPg
import Derived.Test.Qxb6500883aGreatDoorScCh
namespace Go.Proofs.Qxb6500883aGreatDoor
open Go.RowKit
set_option linter.unusedSimpArgs false
set_option linter.unusedVariables false
/-- What is known of the parsed file. -/
structure DgC (n : Nat) (F : FS) : Prop where
  wf : FWf n F
  sz : FSz F
  rg : RgF F
  ct : FCst F
  nb : ∀ x ∈ F.decls, x.name.size ≤ 450000000
/-- What stays from Diagnose's start on: every block of then; the row of the phases. -/
structure DgB (w0 : World) (gP c : Nat) (ρ : Rl) (w : World) : Prop where
  b : Below w0.heap.size w0 w
  r : ∀ g, g < w0.heap.size → ρ g < 9
  p : Blk w gP 1 [.func (.func 55) #[.pointer (some ⟨c, 0, none⟩)] #[], .func (.func 56) #[.pointer (some ⟨c, 0, none⟩)] #[], .func (.func 57) #[.pointer (some ⟨c, 0, none⟩)] #[], .func (.func 58) #[.pointer (some ⟨c, 0, none⟩)] #[]]
  q : ρ gP = 0
/-- The values: each in range, the numbers as written. -/
structure VfOk (F : FS) (vf : Nat → Nat) : Prop where
  lt : ∀ j, vf j < 18446744073709551616
  nm : ∀ j y, F.exprs[j]? = some y → y.form = 0 → vf j = y.val
/-- What the first i phases leave. -/
def DgE (F : FS) : Nat → Rl → CV → World → Prop
  | 0, _, _, _ => True
  | 1, ρ, V, w => ∃ mB gT gE, E1 F mB gT gE ρ w ∧ NamesOk F ∧ V.tD = .slice (some ⟨gT, 0, none⟩) F.types.length F.types.length ∧ V.eD = .slice (some ⟨gE, 0, none⟩) F.exprs.length F.exprs.length
  | 2, ρ, V, w => ∃ mB gT gE vo od, E2 F mB gT gE vo od ρ w ∧ OdOk F od ∧ NamesOk F ∧ Acy (grF F) ∧ V.tD = .slice (some ⟨gT, 0, none⟩) F.types.length F.types.length ∧ V.eD = .slice (some ⟨gE, 0, none⟩) F.exprs.length F.exprs.length ∧ V.ord = vo
  | 3, ρ, V, w => ∃ mB gT gE vo od gV vf, E3 F mB gT gE vo od gV vf ρ w ∧ NamesOk F ∧ Acy (grF F) ∧ VfOk F vf ∧ V.tD = .slice (some ⟨gT, 0, none⟩) F.types.length F.types.length ∧ V.eV = .slice (some ⟨gV, 0, none⟩) F.exprs.length F.exprs.length
  | _, ρ, V, w => ∃ mB gT gE vo od gV vf, E3 F mB gT gE vo od gV vf ρ w ∧ NamesOk F ∧ Acy (grF F) ∧ VfOk F vf ∧ V.tD = .slice (some ⟨gT, 0, none⟩) F.types.length F.types.length ∧ V.eV = .slice (some ⟨gV, 0, none⟩) F.exprs.length F.exprs.length ∧ ShOk F vf
/-- What makes phase i find nothing. -/
def DgK (F : FS) : Nat → Prop
  | 0 => NamesOk F
  | 1 => Acy (grF F)
  | 2 => AllNum F
  | _ => ∀ vf, VfOk F vf → ShOk F vf
structure DgI (N mg : Nat) (l : PL) (bs : List UInt8) (F : FS) (U : FV) (c : Nat) (w0 : World) (gP i : Nat) (w : World) : Prop where
  m : ∃ ρ V, CM N mg ρ w l bs F U c V [] ∧ DgB w0 gP c ρ w ∧ DgE F i ρ V w
structure DgR (N mg : Nat) (l : PL) (bs : List UInt8) (F : FS) (U : FV) (c : Nat) (w0 : World) (gP i : Nat) (w : World) : Prop where
  m : ∃ ρ V errs, CM N mg ρ w l bs F U c V errs ∧ DgB w0 gP c ρ w ∧ errs.length ≤ 200000000000 ∧ (errs = [] → DgE F (i + 1) ρ V w) ∧ (DgK F i → errs = [])
section
variable {N mg : Nat} {ρ ρ' : Rl} {w w' w0 w1 w2 : World} {l : PL} {bs : List UInt8} {F : FS} {U : FV} {c gP i : Nat} {V V' : CV} {errs : List (Nat × Nat)}
theorem DgB.step (h : DgB w0 gP c ρ w) (hf : Fr XD ρ w ρ' w') : DgB w0 gP c ρ' w' := by
  have hs := h.b.size
  refine ⟨h.b.trans ⟨hf.os, hf.tape, hf.output, hf.size, fun g hg => hf.blk g (Nat.lt_of_lt_of_le hg hs) ?_⟩, fun g hg => ?_, hf.keep h.p h.q rfl, ?_⟩
  · have := h.r g hg
    unfold XD
    simp
    omega
  · rw [hf.old g (Nat.lt_of_lt_of_le hg hs)]; exact h.r g hg
  · rw [hf.old gP h.p.lt]; exact h.q
theorem DgB.below (h : DgB w0 gP c ρ w) (hb : Below w.heap.size w w') : DgB w0 gP c ρ w' := h.step (Fr.below hb)
theorem DgB.rho (h : DgB w0 gP c ρ w) (hr : ∀ g, ρ' g ≤ ρ g) : DgB w0 gP c ρ' w := ⟨h.b, fun g hg => Nat.lt_of_le_of_lt (hr g) (h.r g hg), h.p, by have := hr gP; have := h.q; omega⟩
theorem E2.rho {mB gT gE : Nat} {vo : Value} {od : List Nat} (h : E2 F mB gT gE vo od ρ w) (hk : ∀ g k, (k = 12 ∨ k = 13 ∨ k = 17 ∨ k = 18) → ρ g = k → ρ' g = k) : E2 F mB gT gE vo od ρ' w :=
  ⟨⟨⟨h.1.1.1, hk _ _ (by decide) h.1.1.2⟩, ⟨h.1.2.1.1, hk _ _ (by decide) h.1.2.1.2⟩, ⟨h.1.2.2.1, hk _ _ (by decide) h.1.2.2.2⟩⟩, RowX.rho h.2 (fun g => hk g _ (by decide))⟩
theorem phase0 (hc : DgC l.n F) (h : DgI N mg l bs F U c w0 gP 0 w) : Calls Tryz.prog 55 #[.pointer (some ⟨c, 0, none⟩)] w fun e w' => e = .returned (.tuple #[]) ∧ Hid (DgR N mg l bs F U c w0 gP 0 w') := by
  obtain ⟨ρ, V, hC, hB, _⟩ := h.m
  refine (resolveNamesW hC hc.wf hc.sz).mono ?_
  rintro e w' ⟨rfl, HH⟩
  refine ⟨rfl, hid ?_⟩
  obtain ⟨mB, gT, gE, hP⟩ := HH.out
  obtain ⟨ρ', v', errs, h1, h2, h3, h4, h5⟩ := hP.m
  exact ⟨ρ', _, errs, h1, hB.step h2, by omega, fun he => ⟨mB, gT, gE, h5, h3.1 he, rfl, rfl⟩, fun hk => h3.2 hk⟩
theorem phase1 (hc : DgC l.n F) (h : DgI N mg l bs F U c w0 gP 1 w) : Calls Tryz.prog 56 #[.pointer (some ⟨c, 0, none⟩)] w fun e w' => e = .returned (.tuple #[]) ∧ Hid (DgR N mg l bs F U c w0 gP 1 w') := by
  obtain ⟨ρ, V, hC, hB, mB, gT, gE, hE, hn, ht, he⟩ := h.m
  refine (findCyclesW hC hE hc.wf hc.sz hc.rg hc.nb ht he).mono ?_
  rintro e w' ⟨rfl, HH⟩
  refine ⟨rfl, hid ?_⟩
  obtain ⟨vo, od, hO, hP⟩ := HH.out
  obtain ⟨ρ', v', errs, h1, h2, h3, h4, h5⟩ := hP.m
  exact ⟨ρ', _, errs, h1, hB.step h2, by omega, fun hz => ⟨mB, gT, gE, vo, od, h5, hO, hn, h3.1 hz, ht, he, rfl⟩, fun hk => h3.2 hk⟩
theorem noR_le (r : Nat) (ρ : Rl) (g : Nat) : noR r ρ g ≤ ρ g := by unfold noR; split <;> omega
theorem phase2 (hc : DgC l.n F) (h : DgI N mg l bs F U c w0 gP 2 w) : Calls Tryz.prog 57 #[.pointer (some ⟨c, 0, none⟩)] w fun e w' => e = .returned (.tuple #[]) ∧ Hid (DgR N mg l bs F U c w0 gP 2 w') := by
  obtain ⟨ρ0, V, hC, hB, mB, gT, gE, vo, od, hE, hO, hn, ha, ht, he, ho⟩ := h.m
  obtain ⟨ρ, hρ⟩ : ∃ r, noR 15 (noR 14 ρ0) = r := ⟨_, rfl⟩
  have hC : CM N mg ρ w l bs F U c V [] := by rw [← hρ]; exact (hC.noR (by decide)).noR (by decide)
  have hB : DgB w0 gP c ρ w := by rw [← hρ]; exact hB.rho (fun g => Nat.le_trans (noR_le _ _ g) (noR_le _ _ g))
  have hE : E2 F mB gT gE vo od ρ w := by rw [← hρ]; exact hE.rho (fun g k hk hg => noR_keep (by omega) (noR_keep (by omega) hg))
  have h14 : ∀ g, ρ g ≠ 14 ∧ ρ g ≠ 15 := fun g => by
    rw [← hρ]
    refine ⟨fun e => ?_, noR_ne 15 (by decide) _ g⟩
    by_cases h : ρ0 g = 14
    · have e1 : noR 14 ρ0 g = 0 := by unfold noR; rw [if_pos h]
      have e2 := noR_le 15 (noR 14 ρ0) g
      omega
    · have e1 : noR 14 ρ0 g = ρ0 g := by unfold noR; rw [if_neg h]
      have e2 := noR_le 15 (noR 14 ρ0) g
      have e3 : noR 15 (noR 14 ρ0) g = 14 → noR 14 ρ0 g = 14 := fun e => by
        by_cases h2 : noR 14 ρ0 g = 15
        · have : noR 15 (noR 14 ρ0) g = 0 := by
            show (if noR 14 ρ0 g = 15 then 0 else noR 14 ρ0 g) = 0
            rw [if_pos h2]
          omega
        · have : noR 15 (noR 14 ρ0) g = noR 14 ρ0 g := by
            show (if noR 14 ρ0 g = 15 then 0 else noR 14 ρ0 g) = noR 14 ρ0 g
            rw [if_neg h2]
          omega
      have := e3 e
      omega
  refine (evalConstantsW hC hE h14 hc.wf hc.sz hn.e hO he ho).mono ?_
  rintro e w' ⟨rfl, HH⟩
  refine ⟨rfl, hid ?_⟩
  obtain ⟨gV, gK, vf, P, p1, p2, p3, hP⟩ := HH.out
  obtain ⟨ρ', v', errs, h1, h2, h3, h4, h5⟩ := hP.m
  exact ⟨ρ', _, errs, h1, hB.step h2, by omega, fun hz => ⟨mB, gT, gE, vo, od, gV, vf, h5, hn, ha, ⟨p2, p3⟩, ht, rfl⟩, fun hk => h3.2 (p1 hk)⟩
theorem phase3 (hc : DgC l.n F) (h : DgI N mg l bs F U c w0 gP 3 w) : Calls Tryz.prog 58 #[.pointer (some ⟨c, 0, none⟩)] w fun e w' => e = .returned (.tuple #[]) ∧ Hid (DgR N mg l bs F U c w0 gP 3 w') := by
  obtain ⟨ρ, V, hC, hB, mB, gT, gE, vo, od, gV, vf, hE, hn, ha, hv, ht, hev⟩ := h.m
  refine (checkShapesW hC hE hc.wf hc.sz hev).mono ?_
  rintro e w' ⟨rfl, HH⟩
  refine ⟨rfl, hid ?_⟩
  obtain ⟨ρ', v', errs, h1, h2, h3, h4, h5⟩ := HH.out.m
  exact ⟨ρ', _, errs, h1, hB.step h2, by omega, fun hz => ⟨mB, gT, gE, vo, od, gV, vf, h5, hn, ha, hv, ht, hev, h3.1 hz⟩, fun hk => h3.2 (hk vf hv)⟩
/-- Nothing found. -/
theorem DgR.next (h : DgR N mg l bs F U c w0 gP i w) : (∃ ρ V errs, CM N mg ρ w l bs F U c V errs ∧ DgB w0 gP c ρ w ∧ errs.length ≤ 200000000000 ∧ errs ≠ [] ∧ ¬ DgK F i) ∨ DgI N mg l bs F U c w0 gP (i + 1) w := by
  obtain ⟨ρ, V, errs, h1, h2, h3, h4, h5⟩ := h.m
  by_cases he : errs = []
  · subst he; exact .inr ⟨ρ, V, h1, h2, h4 rfl⟩
  · exact .inl ⟨ρ, V, errs, h1, h2, h3, he, fun hk => he (h5 hk)⟩
end
end Go.Proofs.Qxb6500883aGreatDoor
