/- Measuring keeps the structure; the checker and the table side by side. -/
import Derived.Test.Qxb6500883aGreatDoorScLd
namespace Go.Proofs.Qxb6500883aGreatDoor
open Go.RowKit
set_option linter.unusedSimpArgs false
set_option linter.unusedVariables false
/-- Two records of one structure. -/
structure SameR (x y : TR) : Prop where
  kind : y.kind = x.kind
  elem : y.elem = x.elem
  lo : y.lo = x.lo
  hi : y.hi = x.hi
  length : y.length = x.length
  name : y.name = x.name
/-- Two tables of one structure. -/
structure SameS (T T' : TS) : Prop where
  n : T'.types.length = T.types.length
  f : T'.flds = T.flds
  o : T'.opts = T.opts
  d : T'.decls = T.decls
  r : ∀ (i : Nat) (x y : TR), T.types[i]? = some x → T'.types[i]? = some y → SameR x y
theorem SameR.refl (x : TR) : SameR x x := ⟨rfl, rfl, rfl, rfl, rfl, rfl⟩
theorem SameR.trans {x y z : TR} (h : SameR x y) (k : SameR y z) : SameR x z := ⟨k.kind.trans h.kind, k.elem.trans h.elem, k.lo.trans h.lo, k.hi.trans h.hi, k.length.trans h.length, k.name.trans h.name⟩
theorem SameS.refl (T : TS) : SameS T T := ⟨rfl, rfl, rfl, rfl, fun i x y h1 h2 => by rw [h1] at h2; cases h2; exact SameR.refl _⟩
theorem SameS.set {T T' : TS} {i : Nat} {x y : TR} (h : SameS T T') (hx : T'.types[i]? = some x) (hy : SameR x y) : SameS T { T' with types := T'.types.set i y } := by
  have hlt := (List.getElem?_eq_some_iff.1 hx).1
  refine ⟨by show (T'.types.set i y).length = _; rw [List.length_set]; exact h.n, h.f, h.o, h.d, fun j a b ha hb => ?_⟩
  have hb : (T'.types.set i y)[j]? = some b := hb
  by_cases hj : j = i
  · subst hj
    rw [List.getElem?_set_self hlt] at hb
    cases hb
    exact (h.r j a x ha hx).trans hy
  · rw [List.getElem?_set_ne (Ne.symm hj)] at hb
    exact h.r j a b ha hb
theorem upM_same (x : TR) (m : MS) : SameR x (upM x m) := ⟨rfl, rfl, rfl, rfl, rfl, rfl⟩
theorem SameS.flE {T T' : TS} (h : SameS T T') {x y : TR} (hr : SameR x y) : flT T' y = flT T x := by unfold flT; rw [h.f, hr.lo, hr.hi]
theorem SameS.opE {T T' : TS} (h : SameS T T') {x y : TR} (hr : SameR x y) : opT T' y = opT T x := by unfold opT; rw [h.o, hr.lo, hr.hi]
theorem SameS.str {T T' : TS} (h : SameS T T') {i : Nat} {x y : TR} (hr : SameR x y) (hs : StrOk T i x) : StrOk T' i y := by
  cases hs with
  | ser h1 h2 h3 => exact .ser (by rw [hr.kind]; exact h1) (by rw [hr.elem]; exact h2) h3
  | bit h1 h2 => exact .bit (by rw [hr.kind]; exact h1) (by rw [hr.elem]; exact h2)
  | con h1 h2 h3 h4 => exact .con (by rw [hr.kind]; exact h1) (by rw [hr.lo, hr.hi]; exact h2) (by rw [hr.hi, h.f]; exact h3) (by rw [h.flE hr]; exact h4)
  | uni h1 h2 h3 h4 => exact .uni (by rw [hr.kind]; exact h1) (by rw [hr.lo, hr.hi]; exact h2) (by rw [hr.hi, h.o]; exact h3) (by rw [h.opE hr]; exact h4)
theorem SameS.get {T T' : TS} (h : SameS T T') {i : Nat} {y : TR} (hy : T'.types[i]? = some y) : ∃ x, T.types[i]? = some x ∧ SameR x y := by
  have hlt := (List.getElem?_eq_some_iff.1 hy).1
  rw [h.n] at hlt
  exact ⟨_, List.getElem?_eq_getElem hlt, h.r i _ y (List.getElem?_eq_getElem hlt) hy⟩
theorem SameS.tstr {T T' : TS} (h : SameS T T') (hT : TStr T) : TStr T' := fun i y hi hy => by
  obtain ⟨x, hx, hr⟩ := h.get hy
  exact h.str hr (hT i x hi hx)
theorem SameS.flw {T T' : TS} (h : SameS T T') {x y : TR} (hr : SameR x y) (r : Nat → List UInt8) : flW T' r y = flW T r x := by
  unfold flW
  rw [hr.kind, hr.elem, hr.length, h.opE hr]
theorem SameS.rfEq {T T' : TS} (h : SameS T T') (al : Nat → Int) : ∀ f id, rfF T' al f id = rfF T al f id
  | 0, _ => rfl
  | f + 1, id => by
    have hf : rfF T' al f = rfF T al f := funext (h.rfEq al f)
    unfold rfF
    by_cases h8 : id < 8
    · rw [if_pos h8, if_pos h8]
    · rw [if_neg h8, if_neg h8]
      cases hy : T'.types[id]? with
      | none =>
        have : T.types[id]? = none := by
          rw [List.getElem?_eq_none_iff] at hy ⊢
          rw [← h.n]; exact hy
        rw [this]
      | some y =>
        obtain ⟨x, hx, hr⟩ := h.get hy
        rw [hx]
        simp only
        rw [hr.kind, hr.name, hf, h.flw hr]
        unfold dnm
        rw [h.d]
theorem SameS.rf1 {T T' : TS} (h : SameS T T') (al : Nat → Int) (id : Nat) : rf T' al id = rf T al id := h.rfEq al (id + 1) id
/-- What changes has a role in the other map. -/
theorem Fr.other {X : Nat → Bool} {ρ ρ' τ : Rl} {w w' : World} (h : Fr X ρ w ρ' w') (h0 : X 0 = false) (ht : ∀ g, τ g ≠ 0 → ρ g = 0) : Fr (fun r => r == 0) τ w τ w' :=
  ⟨h.os, h.tape, h.output, h.size, fun _ _ => rfl, fun _ _ => rfl, fun g hg hx => h.blk g hg (by
    have : τ g ≠ 0 := by simpa using hx
    rw [ht g this]; exact h0)⟩
section
variable {N mg : Nat} {ρ ρ' : Rl} {w w' w0 w1 w2 : World} {l : PL} {bs : List UInt8} {F : FS} {U : FV} {c n : Nat} {V : CV} {errs : List (Nat × Nat)}
/-- The checker stays where only blocks above all of its own change. -/
theorem CM.above {τ τ' : Rl} {X : Nat → Bool} {n0 : Nat} (h : CM N mg ρ w l bs F U c V errs) (hf : Fr X τ w τ' w') (h0 : X 0 = false) (ht : ∀ g, τ g ≠ 0 → ρ g = 0 ∧ n0 ≤ g) (hN : N ≤ n0) (hs : ∀ ad, l.a = some ad → ad.block < n0) : CM N mg ρ w' l bs F U c V errs :=
  h.keep hf.size ⟨hf.os, hf.tape, hf.output⟩ (fun b hb hc => hf.blk b hb (by
    have : τ b = 0 := by
      cases e : τ b with
      | zero => rfl
      | succ z =>
        obtain ⟨h1, h2⟩ := ht b (by rw [e]; exact Nat.succ_ne_zero z)
        rcases hc with h3 | h3 | ⟨ad, h3, h4⟩
        · omega
        · exact absurd h1 h3
        · have := hs ad h3; omega
    rw [this]; exact h0))
end
end Go.Proofs.Qxb6500883aGreatDoor
