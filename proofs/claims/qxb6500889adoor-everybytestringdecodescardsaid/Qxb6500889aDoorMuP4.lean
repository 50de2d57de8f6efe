/- Plain: every step of the machine refines the model's. -/
import Derived.Test.Qxb6500889aDoorMuP3
namespace Go.Proofs.Qxb6500889aDoor
open Go.RowKit
set_option linter.unusedSimpArgs false
set_option linter.unusedVariables false
section
variable {H H' : HS} {X X' : XS} {n m : Nat} {o : OpP} {z : Rz} {G : List Nat} {M M' : MS} {φ : Nat → Nat}
theorem numX_of {v : Nat} (hv : v < 18446744073709551616) : (numX v = (v : Int) ∧ v < 9223372036854775808) ∨ (numX v < 0 ∧ 9223372036854775808 ≤ v) := by
  unfold numX wrap64
  omega
theorem gvL_ac (h : 4 ≤ o.ac) : gvL o z = [] := by unfold gvL; rw [if_neg (fun k => by omega)]
theorem gvL_c (h : z.c ≠ 0) : gvL o z = [] := by unfold gvL; rw [if_neg (fun k => h k.1)]
theorem gvL_k (h : o.k ≠ 0 ∧ o.k ≠ 1 ∧ o.k ≠ 6) : gvL o z = [] := by unfold gvL; rw [if_neg (fun k => by omega)]
theorem gvL_v (h : z.v = 0) : gvL o z = [] := by unfold gvL; rw [if_neg (fun k => k.2.2.2 h)]
theorem gvL_h (h1 : o.ac < 4) (h2 : o.k = 0 ∨ o.k = 1 ∨ o.k = 6) (g s : Nat) : gvL o (rzA (hN g o.ac s) 0) = [hN g o.ac s] := by
  unfold gvL
  rw [if_pos ⟨rfl, h1, h2, hN_ne _ _ _⟩]
  rfl
theorem tgt_of (X : XS) (m v : Nat) : (v = 0 ∧ tgtX X m v = (0, 4)) ∨ (v ≠ 0 ∧ lookX X m v = none ∧ tgtX X m v = (0, 3)) ∨ (∃ a, v ≠ 0 ∧ lookX X m v = some a ∧ tgtX X m v = (a, 0)) := by
  unfold tgtX
  by_cases h : v = 0
  · exact .inl ⟨h, by rw [if_pos h]⟩
  · rw [if_neg h]
    cases hl : lookX X m v with
    | none => exact .inr (.inl ⟨h, rfl, rfl⟩)
    | some a => exact .inr (.inr ⟨a, h, rfl, rfl⟩)
theorem RM.freed (h : RM H X G M φ) (hi : HI H X) {D : Nat → Bool} (hD : ∀ a, D a = true → H.cond a = true) : RM (Go.Proofs.Qxb6500889aDoor.freed H D) X G M φ := by
  have hn : ∀ b, Nm (Go.Proofs.Qxb6500889aDoor.freed H D) X b → Nm H X b := by
    refine Nm.into (P := Nm H X) (fun m a h1 h2 h3 => .root m a h1 h2 h3) (fun m a h1 h2 h3 => .hand m a h1 h2 h3) (fun b z h1 h2 c h3 h4 => ?_)
    have h2' : (if D b = true then none else H.objs b) = some z := h2
    split at h2'
    · cases h2'
    · exact .ref b c z h1 h2' h3 h4
  refine ⟨h.mt.less hn (fun a ha => ?_), h.roots, h.held, h.gen, h.iss, h.rg, h.al, h.st, h.rf, h.sf⟩
  show (if D a = true then none else H.objs a) = H.objs a
  rw [if_neg]
  intro hd
  have h2 := (hi.nm a (hn a ha)).2
  rw [hD a hd] at h2
  cases h2
theorem RM.base (h : RM H X G M φ) (hi : HI H X) (words : Nat) : RM (baseH H words) X G M φ := by
  unfold baseH
  split
  · exact h
  · exact h.freed hi (fun _ e => e)
theorem RM.step5 (h : RM H X G M φ) (hi : HI H X) {actor : Nat} (hs : StepR H actor H') : RM H' X G M φ := by
  cases hs with
  | idle _ => exact h
  | none _ _ => exact h
  | free a x h1 h2 h3 h4 =>
    rw [freeH_freed h3]
    refine h.freed hi (fun b hb => ?_)
    by_cases e : b = a
    · rw [e]; exact h2
    · rw [fup_ne _ _ e] at hb; cases hb
theorem map_same {l : List Nat} {f g : Nat → Nat} (h : ∀ a ∈ l, f a = g a) : l.map f = l.map g := List.map_congr_left h
/-- A new object in both. -/
theorem RM.mkOb (h : RM H X G M φ) (hi : HI H X) (hm : m < 4) {size refs s : Nat} (hr : refs ≤ size) (hp : placeP H.taken (1 + size) = some s) :
    ∃ φ', RM (mkH H m size refs s) (givX { X with al := X.al + 1 } m (65536 + s)) (G ++ [hN (X.tb m).gen m (X.tb m).ad.length]) (mGive { M with objs := M.objs ++ [⟨List.replicate refs 0, List.replicate (size - refs) 0⟩], alt := M.alt + wrdM size } m (M.objs.length + 1)) φ' := by
  have hgap := hi.wf.gap (by omega) hp
  have hne : ∀ b, Nm H X b → b ≠ 65536 + s := by
    intro b hb e
    obtain ⟨⟨z, hz⟩, _⟩ := hi.nm b hb
    rw [e, hgap] at hz
    cases hz
  have hn : ∀ b, Nm (mkH H m size refs s) (givX { X with al := X.al + 1 } m (65536 + s)) b → b = 65536 + s ∨ Nm H X b := by
    refine Nm.into (P := fun b => b = 65536 + s ∨ Nm H X b) (fun m a h1 h2 h3 => .inr (.root m a h1 h2 h3)) (fun i a h1 h2 h3 => ?_) (fun b z h1 h2 c h3 h4 => ?_)
    · rw [givX_tb] at h2
      split at h2
      · rcases List.mem_append.1 h2 with h4 | h4
        · exact .inr (.hand m a hm h4 h3)
        · exact .inl (List.mem_singleton.1 h4)
      · exact .inr (.hand i a h1 h2 h3)
    · have h2' : fup H.objs (65536 + s) (some (newOb size refs)) b = some z := h2
      by_cases hb : b = 65536 + s
      · rw [hb, fup_self] at h2'
        cases h2'
        have : c ∈ List.replicate refs 0 := h3
        exact absurd (List.eq_of_mem_replicate this) h4
      · rw [fup_ne _ _ hb] at h2'
        rcases h1 with h1 | h1
        · exact absurd h1 hb
        · exact .inr (.ref b c z h1 h2' h3 h4)
  have hφ : ∀ a, a = 0 ∨ Nm H X a → fup φ (65536 + s) (M.objs.length + 1) a = φ a := fun a ha => fup_ne _ _ (by
    rcases ha with rfl | ha
    · omega
    · exact hne a ha)
  have hnm : ∀ i, i < 4 → ∀ a ∈ (X.tb i).ad, a = 0 ∨ Nm H X a := fun i hi' a ha => by
    by_cases e : a = 0
    · exact .inl e
    · exact .inr (.hand i a hi' ha e)
  refine ⟨fup φ (65536 + s) (M.objs.length + 1), ⟨⟨?_, fun b hb => ?_, fun b c hb hc he => ?_⟩, fun i hi' => ?_, fun i hi' => ?_, fun i hi' => ?_, ?_, (h.rg.same (X' := issX { X with al := X.al + 1 } m (65536 + s)) rfl rfl rfl).note _, ?_, h.st, h.rf, h.sf⟩⟩
  · rw [hφ 0 (.inl rfl)]; exact h.mt.z
  · by_cases e : b = 65536 + s
    · subst e
      refine ⟨newOb size refs, ⟨List.replicate refs 0, List.replicate (size - refs) 0⟩, fup_self _ _ _, by rw [fup_self]; omega, ?_, ?_, rfl⟩
      · rw [fup_self]
        show (M.objs ++ _)[M.objs.length + 1 - 1]? = _
        simp
      · show List.replicate refs 0 = (List.replicate refs 0).map _
        rw [List.map_replicate, hφ 0 (.inl rfl), h.mt.z]
    · rcases hn b hb with hb2 | hb2
      · exact absurd hb2 e
      · obtain ⟨x, q, k1, k2, k3, k4, k5⟩ := h.mt.ob b hb2
        refine ⟨x, q, by show fup H.objs _ _ b = _; rw [fup_ne _ _ e]; exact k1, by rw [hφ b (.inr hb2)]; exact k2, ?_, ?_, k5⟩
        · rw [hφ b (.inr hb2)]
          show (M.objs ++ _)[φ b - 1]? = _
          rw [List.getElem?_append_left (List.getElem?_eq_some_iff.1 k3).1]
          exact k3
        · rw [k4]
          refine map_same (fun a ha => (hφ a ?_).symm)
          by_cases e0 : a = 0
          · exact .inl e0
          · exact .inr (.ref b a x hb2 k1 ha e0)
  · have hle : ∀ d, Nm H X d → φ d ≤ M.objs.length := fun d hd => by
      obtain ⟨x, q, k1, k2, k3, _⟩ := h.mt.ob d hd
      have := (List.getElem?_eq_some_iff.1 k3).1
      omega
    rcases hn b hb with hb2 | hb2 <;> rcases hn c hc with hc2 | hc2
    · rw [hb2, hc2]
    · exfalso
      rw [hb2, fup_self, hφ c (.inr hc2)] at he
      have := hle c hc2
      omega
    · exfalso
      rw [hc2, fup_self, hφ b (.inr hb2)] at he
      have := hle b hb2
      omega
    · rw [hφ b (.inr hb2), hφ c (.inr hc2)] at he
      exact h.mt.inj b c hb2 hc2 he
  · show M.roots i = (H.roots i).map _
    rw [h.roots i hi']
    refine map_same (fun a ha => (hφ a ?_).symm)
    by_cases e0 : a = 0
    · exact .inl e0
    · exact .inr (.root i a hi' ha e0)
  · show fup M.held m _ i = _
    rw [givX_tb]
    by_cases e : i = m
    · subst e
      rw [fup_self, if_pos rfl]
      show M.held i ++ [M.objs.length + 1] = ((X.tb i).ad ++ [65536 + s]).map _
      rw [h.held i hi', List.map_append]
      congr 1
      · exact map_same (fun a ha => (hφ a (hnm i hi' a ha)).symm)
      · simp [fup_self]
    · rw [fup_ne _ _ e, if_neg e]
      show M.held i = _
      rw [h.held i hi']
      exact map_same (fun a ha => (hφ a (hnm i hi' a ha)).symm)
  · rw [givX_tb]
    by_cases e : i = m
    · subst e
      rw [if_pos rfl]; exact h.gen i hi'
    · rw [if_neg e]; exact h.gen i hi'
  · show M.iss ++ [hN (M.gen m) m (M.held m).length] = _
    rw [h.iss, h.gen m hm, h.held m hm, List.length_map]
  · show (M.objs ++ [_]).length = X.al + 1
    simp [h.al]
theorem getD_map {l : List Nat} (h0 : φ 0 = 0) (i : Nat) : (l.map φ).getD i 0 = φ (l.getD i 0) := by
  rw [List.getD_eq_getElem?_getD, List.getD_eq_getElem?_getD, List.getElem?_map]
  cases l[i]? with
  | none => simp [h0]
  | some x => rfl
/-- Named, so with a node. -/
theorem RM.node (h : RM H X G M φ) {a : Nat} (ha : Nm H X a) : 1 ≤ φ a := by
  obtain ⟨x, q, k1, k2, _⟩ := h.mt.ob a ha
  exact k2
/-- What a step does in the model. -/
def Refd (H' : HS) (X' : XS) (G : List Nat) (M : MS) (o : OpP) (z : Rz) : Prop := ∃ φ', RM H' X' (G ++ gvL o z) (mDo M o (decide (z.c ≠ 8))).1 φ' ∧ (mDo M o (decide (z.c ≠ 8))).2 = z
theorem mDo_obj {room : Bool} (h1 : o.ac < 4) (h2 : 1 ≤ o.k ∧ o.k ≤ 5) : mDo M o room = (if mOp M o.a = 0 then (M, rzR 4) else match mLook M o.ac (mOp M o.a) with
    | none => (M, rzR 3)
    | some id => match M.objs[id - 1]? with
      | none => (M, rzR 0)
      | some q => mObj M o.ac o id q) := by
  unfold mDo
  rw [if_neg (by omega), if_neg (by omega), if_neg (by omega), if_neg (by omega), if_neg (by omega), if_neg (by omega), if_neg (by omega)]
  rfl
/-- The handle of the object on which a step works: refused in both, or an object and its node. -/
theorem RM.target (h : RM H X G M φ) (hi : HI H X) (h1 : o.ac < 4) (h2 : 1 ≤ o.k ∧ o.k ≤ 5) {room : Bool} :
    ((tgtX X o.ac (opX X o.a)).2 ≠ 0 ∧ mDo M o room = (M, rzR (tgtX X o.ac (opX X o.a)).2)) ∨
    ∃ a x q, tgtX X o.ac (opX X o.a) = (a, 0) ∧ Nm H X a ∧ H.objs a = some x ∧ M.objs[φ a - 1]? = some q ∧ q.refs = x.refs.map φ ∧ q.data = x.data ∧ mDo M o room = mObj M o.ac o (φ a) q := by
  rw [mDo_obj h1 h2, h.op, h.look h1]
  rcases tgt_of X o.ac (opX X o.a) with ⟨e1, e2⟩ | ⟨e1, e2, e3⟩ | ⟨a, e1, e2, e3⟩
  · rw [e2, if_pos e1]; exact .inl ⟨by simp, rfl⟩
  · rw [e3, if_neg e1, e2]; exact .inl ⟨by simp, rfl⟩
  · have hn := tgt_nm hi h1 (v := opX X o.a) (by rw [e3])
    rw [e3] at hn
    obtain ⟨x, q, k1, k2, k3, k4, k5⟩ := h.mt.ob a hn
    refine .inr ⟨a, x, q, e3, hn, k1, k3, k4, k5, ?_⟩
    rw [if_neg e1, e2]
    show (match M.objs[φ a - 1]? with | none => (M, rzR 0) | some q => mObj M o.ac o (φ a) q) = _
    rw [k3]
/-- The same with the index checked. -/
theorem fld_of {a : Nat} {x : Ob} {v : Nat} {i : Int} {r : Bool} (ht : tgtX X m v = (a, 0)) (hx : H.objs a = some x) : fldX H X m v i r = if i < 0 ∨ (obN x r : Int) ≤ i then (0, 5) else (a, 0) := by
  unfold fldX
  rw [ht]
  simp [hx]
theorem fld_bad {v : Nat} {i : Int} {r : Bool} (ht : (tgtX X m v).2 ≠ 0) : fldX H X m v i r = (0, (tgtX X m v).2) := by
  unfold fldX
  rw [if_neg ht]
theorem idx_of {b len : Nat} (hb : b < 18446744073709551616) (hl : len ≤ 100000) : (numX b < 0 ∨ (len : Int) ≤ numX b) ↔ len ≤ b := by
  rcases numX_of hb with ⟨h1, h2⟩ | ⟨h1, h2⟩ <;> omega
theorem num_toNat {b len : Nat} (hb : b < 18446744073709551616) (h : ¬ (numX b < 0 ∨ (len : Int) ≤ numX b)) : (numX b).toNat = b := by
  rcases numX_of hb with ⟨h1, h2⟩ | ⟨h1, h2⟩ <;> omega
theorem RM.same2 (h : RM H X G M φ) (hg : gvL o z = []) (he : mDo M o (decide (z.c ≠ 8)) = (M, z)) : Refd H X G M o z := ⟨φ, by rw [hg, he, List.append_nil]; exact h, by rw [he]⟩
end
end Go.Proofs.Qxb6500889aDoor
