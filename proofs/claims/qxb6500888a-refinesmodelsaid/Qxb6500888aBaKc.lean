/- Every step but the pause: the model answers as the machine does (plain). -/
import Derived.Test.Qxb6500888aBaKb
namespace Go.Proofs.Qxb6500888a
open Go.RowKit
set_option linter.unusedSimpArgs false
set_option linter.unusedVariables false
section
variable {G G2 : GS} {B : BS} {M : MS} {atp : Nat → Nat} {Z : Nat → Prop} {t : Nat}
/-- Same answer, and again alike. -/
def Agr (G' : GS) (B' : BS) (c : Nat × Nat) (atp : Nat → Nat) (r : (Nat × Nat) × GS × MS) : Prop := r.1 = c ∧ RelM G' B' atp r.2.1 r.2.2
theorem agr_8 (hr : RelM G B atp G2 M) (o : OpP) (hk : o.kind = 8) : Agr (playS G B o).2.2.1 (playS G B o).2.2.2 (playS G B o).1 atp (mstepS G2 M o) := by
  have e1 : playS G B o = ((0, (decN (1 + o.a % 8) G).1), hv00, (decN (1 + o.a % 8) G).2, B) := by unfold playS; rw [if_neg (by omega), if_pos hk]
  have e2 : mstepS G2 M o = ((0, (decN (1 + o.a % 8) G2).1), (decN (1 + o.a % 8) G2).2, M) := by unfold mstepS; rw [if_pos hk]
  rw [e1, e2]
  have h := GSim.decN (1 + o.a % 8) hr.gs
  exact ⟨by dsimp only; rw [h.1], h.2, hr.rt, hr.la, hr.ap, hr.wr, hr.fr, hr.st, hr.tr⟩
theorem agr_9 (hI : InvM t G B) (hr : RelM G B atp G2 M) (o : OpP) (hk : o.kind = 9) : Agr (playS G B o).2.2.1 (playS G B o).2.2.2 (playS G B o).1 atp (mstepS G2 M o) := by
  have e1 : playS G B o = ((0, 0), hv00, G, { B with tr := if o.a = 0 then 0 else if B.tr = 0 then 1 else B.tr }) := by unfold playS; rw [if_neg (by omega), if_neg (by omega), if_pos hk]
  have e2 : mstepS G2 M o = ((0, 0), G2, mtrS M o.a) := by unfold mstepS; rw [if_neg (by omega), if_pos hk]
  rw [e1, e2]
  have htr := hI.bo.tr
  refine ⟨rfl, ?_⟩
  dsimp only
  unfold mtrS
  by_cases ha : o.a = 0
  · rw [if_pos ha, if_pos ha]
    exact ⟨hr.gs, hr.rt, hr.la, hr.ap, hr.wr, hr.fr, rfl, rfl⟩
  · rw [if_neg ha, if_neg ha]
    by_cases h2 : B.tr = 2
    · have e : M.tr = true := by rw [hr.tr, h2]; rfl
      rw [if_pos e, if_neg (by omega)]
      exact ⟨hr.gs, hr.rt, hr.la, hr.ap, hr.wr, hr.fr, hr.st, hr.tr⟩
    · have e : ¬ M.tr = true := by rw [hr.tr]; simpa using h2
      rw [if_neg e]
      refine ⟨hr.gs, hr.rt, hr.la, hr.ap, hr.wr, hr.fr, ?_, ?_⟩
      · dsimp only
        by_cases h0 : B.tr = 0
        · rw [if_pos h0]; rfl
        · rw [if_neg h0, show B.tr = 1 by omega]; rfl
      · dsimp only
        rw [hr.tr]
        by_cases h0 : B.tr = 0
        · rw [if_pos h0, h0]; rfl
        · rw [if_neg h0]
theorem agr_hi (hr : RelM G B atp G2 M) (o : OpP) (hk : 10 ≤ o.kind) : Agr (playS G B o).2.2.1 (playS G B o).2.2.2 (playS G B o).1 atp (mstepS G2 M o) := by
  have e1 : playS G B o = ((11, 0), hv00, G, B) := by unfold playS; rw [if_neg (by omega), if_neg (by omega), if_neg (by omega), if_neg (by omega), if_neg (by omega), if_neg (by omega), if_neg (by omega)]
  have e2 : mstepS G2 M o = ((11, 0), G2, M) := by unfold mstepS; rw [if_neg (by omega), if_neg (by omega), if_pos hk]
  rw [e1, e2]
  exact ⟨rfl, hr⟩
theorem bad_of {m : Nat} (hm : 4 ≤ m) : badM (m : Int) := by unfold badM; omega
theorem not_bad {m : Nat} (hm : m < 4) : ¬ badM (m : Int) := by unfold badM; omega
theorem agr_m (hr : RelM G B atp G2 M) (o : OpP) (hk : o.kind < 7) (hm : 4 ≤ o.m) : Agr (playS G B o).2.2.1 (playS G B o).2.2.2 (playS G B o).1 atp (mstepS G2 M o) := by
  have hb := bad_of hm
  have e2 : mstepS G2 M o = ((1, 0), G2, M) := by unfold mstepS; rw [if_neg (by omega), if_neg (by omega), if_neg (by omega), if_pos hm]
  have hro : ∀ k, rootS B (o.m : Int) k = (0, 1) := fun k => by unfold rootS; rw [if_pos hb]
  have e1 : playS G B o = ((1, 0), hv00, G, B) := by
    unfold playS
    rw [if_neg (by omega), if_neg (by omega), if_neg (by omega)]
    by_cases h0 : o.kind = 0
    · rw [if_pos h0, if_pos hb]
    · rw [if_neg h0]
      by_cases h4 : o.kind = 4
      · rw [if_pos h4]
        have e : popS B (o.m : Int) = ((0, 1), B) := by unfold popS; rw [if_pos hb]
        rw [e]
        rfl
      · rw [if_neg h4]
        by_cases h6 : o.kind = 6
        · rw [if_pos h6, if_pos hb]
        · rw [if_neg h6, if_pos (by omega)]
          have e : namedS G B o = ((1, 0), G, B) := by
            unfold namedS
            rw [hro]
            exact if_pos (by decide)
          rw [e]
  rw [e1, e2]
  exact ⟨rfl, hr⟩
theorem agr_4 (hI : InvM t G B) (hr : RelM G B atp G2 M) (o : OpP) (hk : o.kind = 4) (hm : o.m < 4) : Agr (playS G B o).2.2.1 (playS G B o).2.2.2 (playS G B o).1 atp (mstepS G2 M o) := by
  have e2 : mstepS G2 M o = ((mpopS M o.m).1, G2, (mpopS M o.m).2) := by unfold mstepS; rw [if_neg (by omega), if_neg (by omega), if_neg (by omega), if_neg (by omega), if_neg (by omega), if_pos hk]
  have e1 : playS G B o = (giv (popS B (o.m : Int)).1.1 (popS B (o.m : Int)).1.2, hv00, G, (popS B (o.m : Int)).2) := by unfold playS; rw [if_neg (by omega), if_neg (by omega), if_neg (by omega), if_neg (by omega), if_pos hk]
  rw [e1, e2]
  unfold mpopS popS
  rw [if_neg (not_bad hm), Int.toNat_natCast, hr.rt]
  by_cases h0 : (B.roots o.m).length = 0
  · rw [if_pos h0, if_pos h0]
    exact ⟨rfl, hr⟩
  · rw [if_neg h0, if_neg h0]
    exact ⟨rfl, hr.gs, by dsimp only, hr.la, hr.ap, hr.wr, hr.fr, hr.st, hr.tr⟩
theorem agr_0 (hI : InvM t G B) (hc : CI G B atp Z) (hr : RelM G B atp G2 M) (o : OpP) (hob : OpB o) (hk : o.kind = 0) (hm : o.m < 4) : Agr (playS G B o).2.2.1 (playS G B o).2.2.2 (playS G B o).1 atp (mstepS G2 M o) := by
  have e2 : mstepS G2 M o = malocS G2 M o.m o.a o.b := by unfold mstepS; rw [if_neg (by omega), if_neg (by omega), if_neg (by omega), if_neg (by omega), if_pos hk]
  have hal := alocS_nat (G := G) (B := B) hm hob.a hob.b
  generalize hz : numX o.a = z at hal
  generalize hy : numX o.b = y at hal
  have e1 : playS G B o = (if badM (o.m : Int) then ((1, 0), hv00, G, B) else if (B.roots o.m).length = 64 then ((8, 0), hv00, G, B) else if (alocS G B (o.m : Int) z y).1.2 ≠ 0 then (((alocS G B (o.m : Int) z y).1.2, 0), hv00, (alocS G B (o.m : Int) z y).2.1, (alocS G B (o.m : Int) z y).2.2) else (giv (alocS G B (o.m : Int) z y).1.1 (pushS (alocS G B (o.m : Int) z y).2.1 (alocS G B (o.m : Int) z y).2.2 (o.m : Int) (alocS G B (o.m : Int) z y).1.1).1, hv00, (alocS G B (o.m : Int) z y).2.1, (pushS (alocS G B (o.m : Int) z y).2.1 (alocS G B (o.m : Int) z y).2.2 (o.m : Int) (alocS G B (o.m : Int) z y).1.1).2)) := by
    unfold playS
    rw [if_neg (by omega), if_neg (by omega), if_neg (by omega), if_pos hk, hz, hy]
  rw [e1, e2, if_neg (not_bad hm)]
  unfold malocS
  rw [hr.rt, hr.gs.tk]
  by_cases h64 : (B.roots o.m).length = 64
  · rw [if_pos h64, if_pos h64]
    exact ⟨rfl, hr⟩
  rw [if_neg h64, if_neg h64, hal]
  by_cases h5 : o.a < 1 ∨ 8192 < o.a
  · rw [if_pos h5, if_pos h5]
    exact ⟨rfl, hr⟩
  rw [if_neg h5, if_neg h5]
  by_cases h6 : o.a < o.b
  · rw [if_pos h6, if_pos h6]
    exact ⟨rfl, hr⟩
  rw [if_neg h6, if_neg h6]
  cases hp : placeA G.tk (1 + o.a) with
  | none => exact ⟨rfl, hr⟩
  | some s =>
    dsimp only
    rw [if_neg (by simp), pushS_nat o.m (65536 + s) hm (by show (fup G.head (65536 + s) (some (o.a, o.b)) (65536 + s)).isSome = true; rw [fup_self]; rfl)]
    rw [if_neg (by show ¬ (B.roots o.m).length = 64; exact h64)]
    refine ⟨rfl, ⟨?_, ?_, ?_, ?_, ?_, ?_, hr.gs.cl, hr.gs.de⟩, ?_, hr.la, hr.ap, hr.wr, fun x => ?_, hr.st, hr.tr⟩
    · show fup G2.head _ _ = fup G.head _ _; rw [hr.gs.hd]
    · show fillF G2.word s (o.a + 1) 0 = fillF G.word s (o.a + 1) 0; rw [hr.gs.wd]
    · show fillF G2.tk s (1 + o.a) true = fillF G.tk s (1 + o.a) true; rw [hr.gs.tk]
    · exact hr.gs.cn
    · exact hr.gs.pd
    · exact hr.gs.er
    · rfl
    · show fup M.fr (65536 + s) true x = true ↔ x ∈ (List.range 4).flatMap (fup B.fresh o.m (B.fresh o.m ++ [65536 + s]))
      rw [(four_add B.fresh hm (65536 + s)).mem_iff, List.mem_cons]
      by_cases e : x = 65536 + s
      · subst e; rw [fup_self]; simp
      · rw [fup_ne _ _ e, hr.fr]
        constructor
        · exact fun h => .inr h
        · rintro (h | h)
          · exact absurd h e
          · exact h
theorem agr_6 (hI : InvM t G B) (hr : RelM G B atp G2 M) (o : OpP) (hob : OpB o) (hk : o.kind = 6) (hm : o.m < 4) : Agr (playS G B o).2.2.1 (playS G B o).2.2.2 (playS G B o).1 atp (mstepS G2 M o) := by
  have e2 : mstepS G2 M o = ((mwildS G2 o, 0), G2, M) := by unfold mstepS; rw [if_neg (by omega), if_neg (by omega), if_neg (by omega), if_neg (by omega), if_neg (by omega), if_neg (by omega), if_pos hk]
  have hf := fieldS_nat hI.ok o.a hob.b
  generalize hz : numX o.b = z at hf
  have e1 : playS G B o = (if badM (o.m : Int) then ((1, 0), hv00, G, B) else if (readS G o.a z).2 = 0 ∧ ((G.head o.c).isSome = true ∨ o.c = 0) then ((12, 0), hv00, G, B) else (((writeS G B (o.m : Int) o.a z o.c).1, 0), hv00, (writeS G B (o.m : Int) o.a z o.c).2)) := by
    unfold playS
    rw [if_neg (by omega), if_neg (by omega), if_neg (by omega), if_neg (by omega), if_neg (by omega), if_pos hk, hz]
  rw [e1, e2, if_neg (not_bad hm)]
  unfold mwildS
  rw [hr.gs.field, hr.gs.hd]
  have hrd : (readS G o.a z).2 = (mfieldS G o.a o.b).2 := by
    unfold readS
    rw [hf]
    by_cases h : (mfieldS G o.a o.b).2 = 0
    · rw [if_pos h, h]
    · rw [if_neg h]
  rw [hrd]
  by_cases h0 : (mfieldS G o.a o.b).2 = 0
  · rw [if_neg (show ¬ (mfieldS G o.a o.b).2 ≠ 0 from fun h => h h0)]
    by_cases h1 : (G.head o.c).isSome = false ∧ o.c ≠ 0
    · rw [if_pos h1, if_neg (show ¬ ((mfieldS G o.a o.b).2 = 0 ∧ ((G.head o.c).isSome = true ∨ o.c = 0)) by
        rintro ⟨_, h | h⟩
        · rw [h1.1] at h; cases h
        · exact h1.2 h)]
      have e : writeS G B (o.m : Int) o.a z o.c = (4, G, B) := by
        unfold writeS
        rw [if_neg (not_bad hm), hf, if_neg (fun h => h h0), if_pos h1]
      rw [e]
      exact ⟨rfl, hr⟩
    · rw [if_neg h1, if_pos (show (mfieldS G o.a o.b).2 = 0 ∧ ((G.head o.c).isSome = true ∨ o.c = 0) from ⟨h0, by
        cases e : (G.head o.c).isSome with
        | true => exact .inl rfl
        | false => exact .inr (Classical.byContradiction fun h => h1 ⟨e, h⟩)⟩)]
      exact ⟨rfl, hr⟩
  · rw [if_pos (show (mfieldS G o.a o.b).2 ≠ 0 from h0), if_neg (show ¬ ((mfieldS G o.a o.b).2 = 0 ∧ ((G.head o.c).isSome = true ∨ o.c = 0)) from fun h => h0 h.1)]
    have e : writeS G B (o.m : Int) o.a z o.c = ((mfieldS G o.a o.b).2, G, B) := by
      unfold writeS
      rw [if_neg (not_bad hm), hf, if_pos h0]
    rw [e]
    exact ⟨rfl, hr⟩
end
end Go.Proofs.Qxb6500888a
