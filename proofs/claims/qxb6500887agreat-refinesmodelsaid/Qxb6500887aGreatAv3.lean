/- The reading steps of play answer as the model's, plainly. -/
import Derived.Test.Qxb6500887aGreatAv2
namespace Go.Proofs.Qxb6500887aGreat
open Go.RowKit
set_option linter.unusedSimpArgs false
set_option linter.unusedVariables false
/-- A reading step with its answer. -/
def PyE (l : AL) (S : AS) (w : World) (R : List Value) (e : Ending) (w' : World) : Prop := e = .returned (.agg R.toArray) ∧ Hid (AU l w S w')
theorem PyE.mk {l : AL} {S : AS} {w w' : World} {R rs : List Value} {e : Ending} (he : e = .returned (.agg rs.toArray)) (h : rs = R) (hu : AU l w S w') : PyE l S w R e w' := ⟨by rw [he, h], hid hu⟩
section
variable {S : AS} {a b c : Int}
theorem rsG_ok {v u : Int} : rsG 0 v u = rsC 0 v u := rfl
theorem rsG_c {cd cd' v v' u u' : Int} (h : cd = cd') (hv : cd' = 0 → v = v' ∧ u = u') : rsG cd v u = rsG cd' v' u' := by
  subst h
  by_cases hc : cd = 0
  · rw [(hv hc).1, (hv hc).2]
  · rw [rsG_bad hc, rsG_bad hc]
theorem rd0 : rsG (wantW a) (if InH a then ((S.W (wIx a) : Nat) : Int) else 0) 0 = (stR (abE S) 0 a b c).1 := rsG_c rfl (fun h => ⟨by rw [if_pos (wantW_in h)]; rfl, rfl⟩)
theorem rd42 : rsG (refAtA S a).2 (refAtA S a).1 0 = (stR (abE S) 42 a b c).1 := by
  show _ = refAtE (abE S) a
  unfold refAtA refAtE
  by_cases h : InH a
  · rw [if_pos h, if_pos (wantW_iff.2 h)]
    show rsG (if rfOk _ then _ else _ : Int × Int).2 _ _ = if rfOk ((S.W (wIx a) : Nat) : Int) then rsC 0 ((S.W (wIx a) : Nat) : Int) 0 else rsC 9 0 0
    split
    · rfl
    · rfl
  · rw [if_neg h, if_neg (fun q => h (wantW_in q)), wantW_no h]; rfl
theorem rd3 {cd nb : Int} {z : Bool} (h1 : wrCd a nb = cd) (h2 : nbI b = nb) (h3 : cd = 0 → (z = true ↔ ∀ i, i < nb.toNat → S.W (wIx a + i) = 0)) : rsG cd ((bitN z : Nat) : Int) 0 = (stR (abE S) 3 a b c).1 := by
  show _ = izR (abE S) a (nbI b)
  unfold izR
  rw [h2, h1]
  by_cases hc : cd = 0
  · rw [if_pos hc, hc]
    have : izE (abE S).W (wIx a) nb.toNat = z := by
      have h4 := h3 hc
      have h5 := izE_iff (abE S).W (wIx a) nb.toNat
      rw [Bool.eq_iff_iff, h5, h4]
      constructor
      · intro h i hi; exact h (wIx a + i) (by omega) (by omega)
      · intro h i i1 i2
        have := h (i - wIx a) (by omega)
        rw [show wIx a + (i - wIx a) = i by omega] at this
        exact this
    rw [this]; rfl
  · rw [if_neg hc, rsG_bad hc]
theorem on_split (i : Int) (h : onC S a = 0) : fdE (abE S).W a i = 0 → (fwV S (opO S (gIx a)) i) = (((2 * gIx a : Nat) : Int) + 1 + i, 0) := by
  intro hf
  have e := fdE_ok hf
  unfold fwV
  rw [if_pos (show S.W (opO S (gIx a)).k = (opO S (gIx a)).raw from rfl)]
  have k := (onE_ok (W := (abE S).W) h).2.2
  have e1 : (((opO S (gIx a)).rf : Nat) : Int) = decRefs ((abE S).W (2 * gIx a)) := by show (((decRefs (S.W (2 * gIx a))).toNat : Nat) : Int) = decRefs (S.W (2 * gIx a)); have := k.2.2.1; have e0 : (abE S).W = S.W := rfl; rw [e0] at this; omega
  rw [e1, if_pos ⟨e.2.1, e.2.2⟩]
  rfl
theorem rd9 (hS : SOk S) : rsG (arFieldAddrV S a (nbI b)).2 (arFieldAddrV S a (nbI b)).1 0 = (stR (abE S) 9 a b c).1 := by
  show _ = rsG (fdE (abE S).W a (nbI b)) ((65536 + fdAt a (nbI b) : Nat) : Int) 0
  unfold arFieldAddrV
  generalize nbI b = i
  by_cases h : onC S a = 0
  · rw [if_pos h]
    refine rsG_c (fwv_ok hS h i) (fun hf => ⟨?_, rfl⟩)
    have e := on_split i h hf
    show (if (fwV S (opO S (gIx a)) i).2 = 0 then _ else _) = _
    rw [e, if_pos rfl]
    have := (fdE_ok hf).2.1
    unfold fdAt
    show (65536 : Int) + (((2 * gIx a : Nat) : Int) + 1 + i) = _
    omega
  · rw [if_neg h]
    refine rsG_c (fd_no h i).symm (fun hf => absurd (by rw [fd_no h i] at hf; exact hf) h)
theorem rd11 (hS : SOk S) : rsG (arLoadRefV S a (nbI b)).2 (arLoadRefV S a (nbI b)).1 0 = (stR (abE S) 11 a b c).1 := by
  show _ = ldRefE (abE S) a (nbI b)
  unfold arLoadRefV ldRefE
  generalize nbI b = i
  by_cases h : onC S a = 0
  · rw [if_pos h]
    unfold rfV
    rw [fwv_ok hS h]
    by_cases hf : fdE (abE S).W a i = 0
    · rw [if_pos hf, if_pos hf]
      show rsG (if rfOk ((S.W (2 * gIx a + 1 + i.toNat) : Nat) : Int) then _ else _ : Int × Int).2 _ _ = if rfOk ((S.W (2 * gIx a + 1 + i.toNat) : Nat) : Int) then rsC 0 ((S.W (2 * gIx a + 1 + i.toNat) : Nat) : Int) 0 else rsC 9 0 0
      by_cases hr : rfOk ((S.W (2 * gIx a + 1 + i.toNat) : Nat) : Int)
      · rw [if_pos hr, if_pos hr]
        show rsG _ (if rfOk ((S.W (2 * gIx a + 1 + i.toNat) : Nat) : Int) then _ else _ : Int × Int).1 _ = _
        rw [if_pos hr]
        rfl
      · rw [if_neg hr, if_neg hr]
        rfl
    · rw [if_neg hf, if_neg hf]
      exact rsG_bad hf
  · rw [if_neg h, fd_no h, if_neg h]
    exact rsG_bad h
theorem rd10 (hS : SOk S) : rsG (arDataAddrV S a (nbI b)).2 (arDataAddrV S a (nbI b)).1 0 = (stR (abE S) 10 a b c).1 := by
  show _ = rsG (dtE (abE S).W a (nbI b)) ((65536 + dtAt (abE S).W a (nbI b) : Nat) : Int) 0
  unfold arDataAddrV
  generalize nbI b = i
  by_cases h : onC S a = 0
  · rw [if_pos h]
    refine rsG_c (dwv_ok hS h i) (fun hf => ⟨?_, rfl⟩)
    have h2 : (dwV S (opO S (gIx a)) i).2 = 0 := by rw [dwv_ok hS h]; exact hf
    show (if (dwV S (opO S (gIx a)) i).2 = 0 then 65536 + (dwV S (opO S (gIx a)) i).1 else 0) = _
    rw [if_pos h2]
    unfold dwV at h2 ⊢
    rw [if_pos (show S.W (opO S (gIx a)).k = (opO S (gIx a)).raw from rfl)] at h2 ⊢
    split at h2
    · rename_i hh
      rw [if_pos hh]
      show (65536 : Int) + (((2 * gIx a : Nat) : Int) + 1 + (((decRefs (S.W (2 * gIx a))).toNat : Nat) : Int) + i) = ((65536 + (2 * gIx a + 1 + (decRefs (S.W (2 * gIx a))).toNat + i.toNat) : Nat) : Int)
      omega
    · exact absurd h2 (by decide)
  · rw [if_neg h]
    refine rsG_c (dt_no h i).symm (fun hf => absurd (by rw [dt_no h i] at hf; exact hf) h)
theorem rd13 (hS : SOk S) : rsG (arLoadDataV S a (nbI b)).2 (arLoadDataV S a (nbI b)).1 0 = (stR (abE S) 13 a b c).1 := by
  show _ = rsG (dtE (abE S).W a (nbI b)) (((abE S).W (dtAt (abE S).W a (nbI b)) : Nat) : Int) 0
  unfold arLoadDataV
  generalize nbI b = i
  by_cases h : onC S a = 0
  · rw [if_pos h]
    unfold dtV
    rw [dwv_ok hS h]
    by_cases hf : dtE (abE S).W a i = 0
    · rw [if_pos hf, hf]
      rfl
    · rw [if_neg hf]
      show rsG (dtE (abE S).W a i) 0 0 = _
      rw [rsG_bad hf, rsG_bad hf]
  · rw [if_neg h]
    refine rsG_c (dt_no h i).symm (fun hf => absurd (by rw [dt_no h i] at hf; exact hf) h)
theorem wrap_nat {n : Nat} (h : n < 18446744073709551616) : IntKind.u64.wrap (n : Int) = (n : Int) := by rw [IntKind.wrap_u64]; omega
theorem rd16 : rsG (wantO a) (IntKind.u64.wrap (if wantO a = 0 then ((eN 2 32 S.C (gIx a) : Nat) : Int) else 0)) 0 = (stR (abE S) 16 a b c).1 := by
  refine rsG_c rfl (fun h => ⟨?_, rfl⟩)
  rw [if_pos h]
  exact wrap_nat (Nat.lt_of_lt_of_le (eN_lt 2 32 S.C _) (by decide))
theorem rd23 : rsG (wantO a) ((bitN (if wantO a = 0 then !(((eN 1 64 S.M (gIx a) : Nat) : Int) == 0) else false) : Nat) : Int) 0 = (stR (abE S) 23 a b c).1 := by
  refine rsG_c rfl (fun h => ⟨?_, rfl⟩)
  rw [if_pos h, beq_int]; rfl
theorem rd18 : rsG (wantW a) ((bitN (if wantW a = 0 then !(((eN 1 64 S.L (wIx a) : Nat) : Int) == 0) else false) : Nat) : Int) 0 = (stR (abE S) 18 a b c).1 := by
  refine rsG_c rfl (fun h => ⟨?_, rfl⟩)
  rw [if_pos h, beq_int]; rfl
theorem nbI_small {x : Int} (hx : U64 x) (h : 0 ≤ nbI x) : nbI x = x := by
  have h1 := hx.1
  have h2 := hx.2
  unfold nbI wrap64 at h ⊢
  omega
theorem rd4 (ha : U64 a) (hb : U64 b) : rsG (hdrCheck (nbI a) (nbI b)) (if hdrCheck (nbI a) (nbI b) = 0 then encW (nbI a) (nbI b) else 0) 0 = (stR (abE S) 4 a b c).1 := by
  show _ = encE a b
  unfold encE
  by_cases h : hdrCheck (nbI a) (nbI b) = 0
  · rw [if_pos h, if_pos h, h, rsG_ok]
    have hr : 1 ≤ nbI a ∧ nbI a ≤ 8192 ∧ 0 ≤ nbI b ∧ nbI b ≤ nbI a := by
      unfold hdrCheck at h
      split at h
      · exact absurd h (by decide)
      · split at h
        · exact absurd h (by decide)
        · omega
    have ea := nbI_small ha (by omega)
    have eb := nbI_small hb (by omega)
    rw [ea, eb] at hr ⊢
    unfold encW
    rw [Int.emod_eq_of_lt (by omega) (by omega)]
  · rw [if_neg h, if_neg h]
    exact rsG_bad h
theorem rd5 {s rf s2 r2 cd : Int} (h : (isHdr a ∧ s = decSize a ∧ rf = decRefs a ∧ cd = 0) ∨ (¬ isHdr a ∧ cd = 6)) (hs : IntKind.u64.wrap s = s2) (hr : IntKind.u64.wrap rf = r2) : rsG cd s2 r2 = (stR (abE S) 5 a b c).1 := by
  show _ = decE a
  unfold decE
  rcases h with ⟨h1, h2, h3, h4⟩ | ⟨h1, h2⟩
  · rw [if_pos h1, h4, rsG_ok, ← hs, ← hr, h2, h3]
    have e1 : IntKind.u64.wrap (decSize a) = decSize a := by rw [IntKind.wrap_u64]; unfold decSize; omega
    have e2 : IntKind.u64.wrap (decRefs a) = decRefs a := by rw [IntKind.wrap_u64]; unfold decRefs; omega
    rw [e1, e2]
  · rw [if_neg h1, h2]; rfl
theorem rd7 {s rf s2 r2 cd : Int} (hc : onC S a = cd) (h : cd = 0 → s = decSize (S.W (2 * gIx a)) ∧ rf = decRefs (S.W (2 * gIx a))) (hs : IntKind.u64.wrap s = s2) (hr : IntKind.u64.wrap rf = r2) : rsG cd s2 r2 = (stR (abE S) 7 a b c).1 := by
  show _ = headE (abE S).W a
  unfold headE
  rw [show onE (abE S).W a = cd from hc]
  by_cases h0 : cd = 0
  · rw [if_pos h0, h0, rsG_ok]
    obtain ⟨e1, e2⟩ := h h0
    have k := onE_op (W := (abE S).W) (x := a) (by rw [show onE (abE S).W a = cd from hc]; exact h0)
    obtain ⟨o1, o2, o3, o4, o5, o6⟩ := opW_ok k.2.1 k.2.2
    rw [← hs, ← hr, e1, e2]
    have e0 : (abE S).W = S.W := rfl
    rw [e0] at o1 o2 o3 o4 o5 o6 ⊢
    rw [o1, o2, wrap_nat (by omega), wrap_nat (by omega)]
  · rw [if_neg h0]
    exact rsG_bad h0
end
end Go.Proofs.Qxb6500887aGreat
