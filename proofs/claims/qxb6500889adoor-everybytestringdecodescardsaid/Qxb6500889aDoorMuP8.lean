/- Plain: the counts of steps and refusals change nothing else. -/
import Derived.Test.Qxb6500889aDoorMuS2
namespace Go.Proofs.Qxb6500889aDoor
open Go.RowKit
set_option linter.unusedSimpArgs false
set_option linter.unusedVariables false
def addS (X : XS) (k : Nat) : XS := { X with st := X.st + k, rf := X.rf + k }
def addZ (o : OpP) (z : Rz) (k : Nat) : Rz := if o.ac < 4 ∧ o.k = 8 then { z with a := z.a + k, b := z.b + k } else z
section
variable {H H' : HS} {X X' : XS} {o : OpP} {z : Rz} {k : Nat}
theorem alO_add (m : Nat) (s r : Int) : alO H (addS X k) m s r = ((alO H X m s r).1, addS (alO H X m s r).2.1 k, (alO H X m s r).2.2) := by
  unfold alO
  rw [show (addS X k).tb = X.tb from rfl]
  split
  · rfl
  split
  · rfl
  split
  · rfl
  cases placeP (baseH H (1 + s.toNat)).taken (1 + s.toNat) <;> rfl
theorem rdF_add (m v : Nat) (i : Int) : rdF H (addS X k) m v i = (addS (rdF H X m v i).1 k, (rdF H X m v i).2) := by
  unfold rdF
  rw [show fldX H (addS X k) m v i true = fldX H X m v i true from rfl, show (addS X k).tb = X.tb from rfl]
  split
  · cases H.objs (fldX H X m v i true).1 with
    | none => rfl
    | some x =>
      dsimp only
      split
      · rfl
      split <;> rfl
  · rfl
theorem ppR_add (m : Nat) : ppR H (addS X k) m = ((ppR H X m).1, addS (ppR H X m).2.1 k, (ppR H X m).2.2) := by
  unfold ppR
  rw [show (addS X k).tb = X.tb from rfl]
  cases (H.roots m).getLast? with
  | none => rfl
  | some x => dsimp only; split <;> rfl
theorem DoS.al' {H1 : HS} {X1 : XS} {v c : Nat} (h1 : o.ac < 4) (h2 : o.k = 0) (he : alO H X o.ac (numX o.a) (numX o.b) = (H1, X1, v, c)) : DoS H X o H1 X1 (rzA v c) := by
  have := DoS.al (H := H) (X := X) h1 h2
  rw [he] at this
  exact this
theorem alO_add' (m : Nat) (s r : Int) : alO H (addS X k) m s r = ((alO H X m s r).1, addS (alO H X m s r).2.1 k, (alO H X m s r).2.2.1, (alO H X m s r).2.2.2) := by
  rw [alO_add]
theorem DoS.add (h : DoS H X o H' X' z) : DoS H (addS X k) o H' (addS X' k) (addZ o z k) := by
  cases h with
  | bad h1 => rw [addZ, if_neg (by omega)]; exact .bad h1
  | coll H' h1 h2 h3 => rw [addZ, if_neg (by omega)]; exact .coll H' h1 h2 h3
  | al h1 h2 =>
    rw [addZ, if_neg (by omega)]
    exact DoS.al' h1 h2 (alO_add' _ _ _)
  | rf h1 h2 =>
    rw [addZ, if_neg (by omega)]
    have := DoS.rf (H := H) (X := addS X k) h1 h2
    rw [show opX (addS X k) o.a = opX X o.a from rfl, rdF_add] at this
    exact this
  | wf h1 h2 => rw [addZ, if_neg (by omega)]; exact DoS.wf (H := H) (X := addS X k) h1 h2
  | rd h1 h2 => rw [addZ, if_neg (by omega)]; exact DoS.rd (H := H) (X := addS X k) h1 h2
  | wd h1 h2 => rw [addZ, if_neg (by omega)]; exact DoS.wd (H := H) (X := addS X k) h1 h2
  | pu h1 h2 => rw [addZ, if_neg (by omega)]; exact DoS.pu (H := H) (X := addS X k) h1 h2
  | po h1 h2 =>
    rw [addZ, if_neg (by omega)]
    have := DoS.po (H := H) (X := addS X k) h1 h2
    rw [ppR_add] at this
    exact this
  | sf h1 h2 => rw [addZ, if_neg (by omega)]; exact DoS.sf (H := H) (X := addS X k) h1 h2
  | st h1 h2 => rw [addZ, if_pos ⟨h1, h2⟩]; exact DoS.st (H := H) (X := addS X k) h1 h2
  | kb h1 h2 => rw [addZ, if_neg (by omega)]; exact DoS.kb (H := H) (X := addS X k) h1 h2
theorem addZ_cv : (addZ o z k).c = z.c ∧ (addZ o z k).v = z.v := by
  unfold addZ
  split <;> exact ⟨rfl, rfl⟩
theorem doX_add (hc : (addZ o z k).c = z.c) : doX (addS X k) (addZ o z k) = addS (doX X z) k := by
  unfold doX addS
  rw [hc]
  congr 1
  · show X.st + k + 1 = X.st + 1 + k
    omega
  · show (if z.c = 0 then X.rf + k else X.rf + k + 1) = (if z.c = 0 then X.rf else X.rf + 1) + k
    split <;> omega
/-- The two worlds behind a step that both play. -/
theorem both_played {S1 S2 S1' S2' : WSt} {z1 z2 : Rz} (hH : S1.H = S2.H) (hX : S1.X = addS S2.X k) (hG : S1.G = S2.G) (p1 : Pld S1 o z1 S1') (p2 : Pld S2 o z2 S2') : S1'.H = S2'.H ∧ S1'.X = addS S2'.X k ∧ S1'.G = S2'.G := by
  obtain ⟨k1, ⟨X1, d1, e1⟩, g1⟩ := p1
  obtain ⟨k2, ⟨X2, d2, e2⟩, g2⟩ := p2
  rw [hH, hX] at d1
  obtain ⟨q1, q2, q3⟩ := d1.det (d2.add (k := k))
  have hcv := addZ_cv (o := o) (z := z2) (k := k)
  refine ⟨q1, ?_, ?_⟩
  · rw [e1, e2, q2, q3]
    exact doX_add hcv.1
  · rw [g1, g2, hG, q3]
    congr 1
    unfold gvL
    rw [hcv.1, hcv.2]
/-- A refused step, spared by the other. -/
theorem one_refused {S1 S2 S1' : WSt} {z1 : Rz} (hH : S1.H = S2.H) (hX : S1.X = addS S2.X k) (hG : S1.G = S2.G) (p1 : Pld S1 o z1 S1') (h0 : z1.c ≠ 0) (h8 : z1.c ≠ 8) : S1'.H = S2.H ∧ S1'.X = addS S2.X (k + 1) ∧ S1'.G = S2.G := by
  obtain ⟨k1, ⟨X1, d1, e1⟩, g1⟩ := p1
  obtain ⟨r1, r2⟩ := d1.refused h0
  refine ⟨(r2 h8).trans hH, ?_, ?_⟩
  · rw [e1, r1, hX]
    unfold doX addS
    rw [if_neg h0]
    congr 1
  · rw [g1, gvL_c h0, List.append_nil]
    exact hG
theorem SmT.add {S1 S2 : WSt} (hH : S1.H = S2.H) (hX : S1.X = addS S2.X k) : SmT S1.H S1.X S2.H S2.X := by
  rw [hH, hX]
  exact ⟨fun _ _ => rfl, fun _ _ => rfl, rfl, rfl⟩
end
end Go.Proofs.Qxb6500889aDoor
