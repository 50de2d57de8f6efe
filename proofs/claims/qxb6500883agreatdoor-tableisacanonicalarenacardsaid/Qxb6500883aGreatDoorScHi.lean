/- lowerDecl and lowerType come to an end: by the ranks, and by the trees of the nodes. -/
import Derived.Test.Qxb6500883aGreatDoorScHh
import Derived.Test.Qxb6500883aGreatDoorScJa
namespace Go.Proofs.Qxb6500883aGreatDoor
open Go.RowKit
set_option linter.unusedSimpArgs false
set_option linter.unusedVariables false
section
variable {N mg : Nat} {ρ : Rl} {w0 w wz : World} {l : PL} {bs : List UInt8} {F : FS} {U : FV} {c : Nat} {V : CV} {gT gV : Nat} {vf rk : Nat → Nat} {L : BLy} {R : Nat} {τ : Rl} {B : BS}
theorem CstL.nil_eq {k : Nat} (h : CstL F [] k) : k = 0 := by cases h; rfl
theorem lowTs (hC : LCx N mg ρ w0 l bs F U c V gT gV vf rk) (hS : ShOk F vf) (hLc : L.c = c) {d : Nat} {y : DN} (hy : F.decls[d]? = some y) (ih : ∀ d' z, F.decls[d']? = some z → z.sort ≠ 0 → rk d' < rk d → DclC l.n F vf rk L w0 (rk d) d') {rs : List Nat} {k : Nat} (hc : CstL F rs k) :
    (∀ r ∈ rs, y.tLo ≤ r ∧ r < y.tHi) → TLs (TypC l.n F vf rk L w0 (rk d)) rs k := by
  induction hc with
  | nil => intro _; exact .nil
  | @cons r x rs a b hx h7 ha _ iha ihb =>
    intro hr
    obtain ⟨h1, h2⟩ := hr r (by simp)
    have hw := (hC.wf.d y (List.mem_of_getElem? hy)).tw r x h1 h2 hx
    have hlt := (List.getElem?_eq_some_iff.1 hx).1
    have hkid : ∀ e ∈ kids F x, y.tLo ≤ e ∧ e < y.tHi := fun e he => by
      unfold kids at he
      split at he
      · rename_i hf
        obtain ⟨q, hq, h4, h5⟩ := hw.elem hf
        rw [hq] at he
        simp at he
        subst he
        omega
      · split at he
        · rename_i hf
          obtain ⟨h4, h5, h6⟩ := hw.uni hf
          obtain ⟨j, hj⟩ := List.mem_iff_getElem?.1 he
          have hj1 : j < x.hi - x.lo := by
            have := (List.getElem?_eq_some_iff.1 hj).1
            rw [List.length_take] at this
            omega
          rw [List.getElem?_take, if_pos hj1, List.getElem?_drop] at hj
          have := h6 (x.lo + j) e (by omega) (by omega) hj
          omega
        · cases he
    have hT := iha hkid
    have e1 : a + b + 1 = (a + 1) + b := by omega
    rw [e1]
    refine .cons ?_ (ihb (fun q hq => hr q (by simp [hq])))
    have hform := hw.form
    have leaf : x.form ≠ 3 → x.form ≠ 4 → x.form ≠ 7 → a = 0 := fun g3 g4 g7 => by
      have e : kids F x = [] := by unfold kids; rw [if_neg (by omega), if_neg g7]
      rw [e] at ha
      exact ha.nil_eq
    rcases (by omega : x.form = 0 ∨ x.form = 1 ∨ x.form = 2 ∨ x.form = 3 ∨ x.form = 4 ∨ x.form = 5 ∨ x.form = 6 ∨ x.form = 7) with h | h | h | h | h | h | h | h
    · have : a = 0 := leaf (by omega) (by omega) (by omega)
      subst this
      exact lowTbasic hC hLc hx h
    · have : a = 0 := leaf (by omega) (by omega) (by omega)
      subst this
      exact lowTnone hC hLc hx h
    · have : a = 0 := leaf (by omega) (by omega) (by omega)
      subst this
      obtain ⟨d', e2, e3, e4, z, hz, hzs⟩ := hC.less hx h hy h1 h2
      exact lowTname hC hLc hx h e2 (ih d' z hz hzs e4)
    · obtain ⟨e, he, _, _⟩ := hw.elem (.inl h)
      obtain ⟨ct, hct, _, hcl⟩ := hw.count (by omega) (by omega)
      have hcl2 := (hC.wf.d y (List.mem_of_getElem? hy)).e.2
      have ek : kids F x = [e] := by unfold kids; rw [if_pos (.inl h), he]; simp
      rw [ek] at hT
      cases hT with
      | cons g1 g2 =>
        cases g2
        exact lowTser3 hC hLc hx h he hct (by omega) hw.pos g1
    · obtain ⟨e, he, _, _⟩ := hw.elem (.inr h)
      obtain ⟨ct, hct, _, hcl⟩ := hw.count (by omega) (by omega)
      have hcl2 := (hC.wf.d y (List.mem_of_getElem? hy)).e.2
      have ek : kids F x = [e] := by unfold kids; rw [if_pos (.inr h), he]; simp
      rw [ek] at hT
      cases hT with
      | cons g1 g2 =>
        cases g2
        exact lowTser4 hC hLc hx h he hct (by omega) hw.pos g1
    · have : a = 0 := leaf (by omega) (by omega) (by omega)
      subst this
      obtain ⟨ct, hct, _, hcl⟩ := hw.count (by omega) (by omega)
      have hcl2 := (hC.wf.d y (List.mem_of_getElem? hy)).e.2
      exact lowTbit5 hC hLc hx h hct (by omega) hw.pos
    · have : a = 0 := leaf (by omega) (by omega) (by omega)
      subst this
      obtain ⟨ct, hct, _, hcl⟩ := hw.count (by omega) (by omega)
      have hcl2 := (hC.wf.d y (List.mem_of_getElem? hy)).e.2
      exact lowTbit6 hC hLc hx h hct (by omega) hw.pos
    · have hu := hS.u r x hlt hx h
      exact lowTuni hC hLc hx h (by omega) (h7 h).2 hw.pos hT
theorem lowD (hC : LCx N mg ρ w0 l bs F U c V gT gV vf rk) (hS : ShOk F vf) (hLc : L.c = c) : ∀ (m d : Nat) (y : DN), rk d ≤ m → F.decls[d]? = some y → y.sort ≠ 0 → ∀ R, rk d < R → DclC l.n F vf rk L w0 R d := by
  intro m
  induction m with
  | zero =>
    intro d y hm hy hs R hR
    exact lowD1 (fun d' z hz hzs hlt => absurd hlt (by omega)) hy hs hR
  | succ m ihm =>
    intro d y hm hy hs R hR
    exact lowD1 (fun d' z hz hzs hlt => ihm d' z (by omega) hz hzs (rk d) hlt) hy hs hR
where
  lowD1 {d : Nat} {y : DN} {R : Nat} (ih : ∀ d' z, F.decls[d']? = some z → z.sort ≠ 0 → rk d' < rk d → DclC l.n F vf rk L w0 (rk d) d') (hy : F.decls[d]? = some y) (hs : y.sort ≠ 0) (hR : rk d < R) : DclC l.n F vf rk L w0 R d := by
    intro τ w B hM hb hO hsz
    have hlt := (List.getElem?_eq_some_iff.1 hy).1
    have hw := hC.wf.d y (List.mem_of_getElem? hy)
    have hwt : wtD F d = 2 * (y.tHi - y.tLo) + 1 := by unfold wtD; rw [hy]
    rcases hO.d d with hdt | ⟨id, hdt, _⟩
    · have hs2 := hw.sort
      rcases (by omega : y.sort = 1 ∨ y.sort = 2) with h | h
      · obtain ⟨r, hr, h1, h2⟩ := hw.ali h
        obtain ⟨k, hk, hk2⟩ := (hC.ct y (List.mem_of_getElem? hy)).ali h
        rw [hr, Int.toNat_natCast] at hk
        have hT := lowTs hC hS hLc hy ih hk (fun q hq => by simp at hq; subst hq; exact ⟨h1, h2⟩)
        cases hT with
        | @cons _ a b _ g1 g2 =>
          cases g2
          exact lowDali hC hLc hy h hr (k := a) (by omega) hR g1 hM hb hO hsz hdt
      · obtain ⟨k, hk, hk2⟩ := (hC.ct y (List.mem_of_getElem? hy)).cnt h
        have hT := lowTs hC hS hLc hy ih hk (fun q hq => by
          obtain ⟨f, hf, rfl⟩ := List.mem_map.1 hq
          obtain ⟨j, g1, g2, g3⟩ := mem_fldsOf (F := F) (x := y) hf
          exact hw.cnt h j f g1 g2 g3)
        have hne := hS.c d y hlt hy h
        exact lowDcnt hC hLc hy h (by have := hw.f.1; omega) hw.f.2 hw.pos (by omega) hR hT hM hb hO hsz hdt
    · exact lowDdone hlt hM hdt
end
end Go.Proofs.Qxb6500883aGreatDoor
