/- A refused step changes nothing (plain). -/
import Derived.Test.Qxb6500888aBaS1
namespace Go.Proofs.Qxb6500888a
open Go.RowKit
set_option linter.unusedSimpArgs false
set_option linter.unusedVariables false

theorem giv_code (v c : Nat) : (giv v c).1 = c := by
  unfold giv
  by_cases h : c ≠ 0
  · simp [h]
  · have : c = 0 := Classical.byContradiction h
    simp [this]
theorem pushS_no {G : GS} {B : BS} {x : Int} {r : Nat} (h : (pushS G B x r).1 ≠ 0) : (pushS G B x r).2 = B := by
  revert h
  exact ite_C (P := fun r : Nat × BS => r.1 ≠ 0 → r.2 = B) (fun _ _ => rfl) (fun _ => ite_C (P := fun r : Nat × BS => r.1 ≠ 0 → r.2 = B) (fun _ _ => rfl) (fun _ => ite_C (P := fun r : Nat × BS => r.1 ≠ 0 → r.2 = B) (fun _ _ => rfl) (fun _ h => absurd rfl h)))
theorem popS_no {B : BS} {x : Int} (h : (popS B x).1.2 ≠ 0) : (popS B x).2 = B := by
  revert h
  exact ite_C (P := fun r : (Nat × Nat) × BS => r.1.2 ≠ 0 → r.2 = B) (fun _ _ => rfl) (fun _ => ite_C (P := fun r : (Nat × Nat) × BS => r.1.2 ≠ 0 → r.2 = B) (fun _ _ => rfl) (fun _ h => absurd rfl h))
theorem writeS_no2 {G : GS} {B : BS} {x : Int} {a : Nat} {i : Int} {r : Nat} (h : (writeS G B x a i r).1 ≠ 0) : (writeS G B x a i r).2 = (G, B) := by
  revert h
  exact ite_C (P := fun r : Nat × GS × BS => r.1 ≠ 0 → r.2 = (G, B)) (fun _ _ => rfl) (fun _ => ite_C (P := fun r : Nat × GS × BS => r.1 ≠ 0 → r.2 = (G, B)) (fun _ _ => rfl) (fun _ => ite_C (P := fun r : Nat × GS × BS => r.1 ≠ 0 → r.2 = (G, B)) (fun _ _ => rfl) (fun _ h => absurd rfl h)))
theorem namedS_C2 (G : GS) (B : BS) (o : OpP) {P : (Nat × Nat) × GS × BS → Prop} (h1 : ∀ c, P ((c, 0), G, B)) (h2 : ∀ x r, P (((pushS G B x r).1, 0), G, (pushS G B x r).2)) (h3 : ∀ x r v, P (giv v (pushS G B x r).1, G, (pushS G B x r).2)) (h4 : ∀ x a i r, P (((writeS G B x a i r).1, 0), (writeS G B x a i r).2)) : P (namedS G B o) :=
  ite_C (fun _ => h1 _) (fun _ => ite_C (fun _ => h2 _ _) (fun _ => ite_C (fun _ => h2 _ _) (fun _ => ite_C (fun _ => ite_C (fun _ => h1 _) (fun _ => h3 _ _ _)) (fun _ => ite_C (fun _ => h1 _) (fun _ => h4 _ _ _ _)))))
theorem namedS_no {G : GS} {B : BS} {o : OpP} : (namedS G B o).1.1 ≠ 0 → (namedS G B o).2 = (G, B) :=
  namedS_C2 G B o (P := fun r => r.1.1 ≠ 0 → r.2 = (G, B)) (fun _ _ => rfl) (fun x r h => congrArg (Prod.mk G) (pushS_no h)) (fun x r v h => congrArg (Prod.mk G) (pushS_no (by dsimp only at h; rw [giv_code] at h; exact h))) (fun x a i r h => writeS_no2 h)
theorem aloc_push {G : GS} {B : BS} {m : Nat} {sz rf : Int} (hm : ¬ badM (m : Int)) (hl : (B.roots m).length ≠ 64) (hc : (alocS G B (m : Int) sz rf).1.2 = 0) : (pushS (alocS G B (m : Int) sz rf).2.1 (alocS G B (m : Int) sz rf).2.2 (m : Int) (alocS G B (m : Int) sz rf).1.1).1 = 0 := by
  unfold alocS at hc ⊢
  rw [if_neg hm] at hc ⊢
  by_cases h1 : sz < 1 ∨ 8192 < sz
  · rw [if_pos h1] at hc; cases hc
  · rw [if_neg h1] at hc ⊢
    by_cases h2 : rf < 0 ∨ sz < rf
    · rw [if_pos h2] at hc; cases hc
    · rw [if_neg h2] at hc ⊢
      cases hp : placeA G.tk (1 + sz.toNat) with
      | none => rw [hp] at hc; cases hc
      | some s =>
        dsimp only
        unfold pushS
        rw [if_neg hm, if_neg (by show ¬ (fup G.head (65536 + s) (some (sz.toNat, rf.toNat)) (65536 + s)).isSome = false; rw [fup_self]; simp), if_neg (by show ¬ (B.roots (m : Int).toNat).length = 64; rw [Int.toNat_natCast]; exact hl)]
theorem playS_C2 (G : GS) (B : BS) (o : OpP) {P : (Nat × Nat) × (Nat → List Nat) × GS × BS → Prop} (h1 : ∀ c, P ((c, 0), hv00, G, B)) (h0 : ∀ v hv G' B', P ((0, v), hv, G', B'))
    (h2 : ∀ sz rf, (alocS G B (o.m : Int) sz rf).1.2 ≠ 0 → P (((alocS G B (o.m : Int) sz rf).1.2, 0), hv00, (alocS G B (o.m : Int) sz rf).2.1, (alocS G B (o.m : Int) sz rf).2.2))
    (h3 : ∀ sz rf, ¬ badM (o.m : Int) → (B.roots o.m).length ≠ 64 → ¬ (alocS G B (o.m : Int) sz rf).1.2 ≠ 0 → P (giv (alocS G B (o.m : Int) sz rf).1.1 (pushS (alocS G B (o.m : Int) sz rf).2.1 (alocS G B (o.m : Int) sz rf).2.2 (o.m : Int) (alocS G B (o.m : Int) sz rf).1.1).1, hv00, (alocS G B (o.m : Int) sz rf).2.1, (pushS (alocS G B (o.m : Int) sz rf).2.1 (alocS G B (o.m : Int) sz rf).2.2 (o.m : Int) (alocS G B (o.m : Int) sz rf).1.1).2))
    (h4 : ∀ x, P (giv (popS B x).1.1 (popS B x).1.2, hv00, G, (popS B x).2)) (h5 : ∀ x a i r, P (((writeS G B x a i r).1, 0), hv00, (writeS G B x a i r).2)) (h6 : P ((namedS G B o).1, hv00, (namedS G B o).2)) : P (playS G B o) :=
  ite_C (fun _ => h0 _ _ _ _) (fun _ => ite_C (fun _ => h0 _ _ _ _) (fun _ => ite_C (fun _ => h0 _ _ _ _) (fun _ =>
    ite_C (fun _ => ite_C (fun _ => h1 _) (fun hb => ite_C (fun _ => h1 _) (fun hl => ite_C (fun hc => h2 _ _ hc) (fun hc => h3 _ _ hb hl hc))))
      (fun _ => ite_C (fun _ => h4 _) (fun _ => ite_C (fun _ => ite_C (fun _ => h1 _) (fun _ => ite_C (fun _ => h1 _) (fun _ => h5 _ _ _ _))) (fun _ => ite_C (fun _ => h6) (fun _ => h1 _)))))))
theorem playS_no {G : GS} {B : BS} {o : OpP} : (playS G B o).1.1 ≠ 0 → (playS G B o).2.2 = (G, B) :=
  playS_C2 G B o (P := fun r => r.1.1 ≠ 0 → r.2.2 = (G, B)) (fun _ _ => rfl) (fun _ _ _ _ h => absurd rfl h) (fun sz rf hc _ => alocS_same o.m sz rf hc) (fun sz rf hb hl hc h => absurd (aloc_push hb hl (Classical.byContradiction hc)) (by dsimp only at h; rw [giv_code] at h; exact h)) (fun x h => congrArg (Prod.mk G) (popS_no (by dsimp only at h; rw [giv_code] at h; exact h))) (fun x a i r h => writeS_no2 h) namedS_no
end Go.Proofs.Qxb6500888a
