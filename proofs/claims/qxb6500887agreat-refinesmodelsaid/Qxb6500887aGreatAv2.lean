/- The writing steps answer and do as the model's. -/
import Derived.Test.Qxb6500887aGreatAv1
namespace Go.Proofs.Qxb6500887aGreat
open Go.RowKit
set_option linter.unusedSimpArgs false
set_option linter.unusedVariables false
/-- A writing step and the model's. -/
def WrL (S : AS) (k : Nat) (a b c : Int) (r : Int × Int × AS) : Prop := rsG r.1 r.2.1 0 = (stR (abE S) k a b c).1 ∧ Agr (stR (abE S) k a b c).2 (abE r.2.2)
section
variable {S : AS} {a b c : Int}
theorem WrL.of {k : Nat} {cd : Int} {S' : AS} {p : Int × ES} (h1 : (stR (abE S) k a b c) = (rsC p.1 0 0, p.2)) (h2 : p.1 = cd) (h3 : Agr p.2 (abE S')) : WrL S k a b c (cd, 0, S') := by
  unfold WrL
  rw [h1]
  exact ⟨by rw [rsG_r, h2], h3⟩
theorem w1 : WrL S 1 a b c ((storeA S a b).1, 0, (storeA S a b).2) := by
  refine WrL.of (p := storeE (abE S) a b) rfl ?_ ?_
  · unfold storeE storeA
    by_cases h : InH a
    · rw [if_pos h, if_pos (wantW_iff.2 h)]
    · rw [if_neg h, if_neg (fun q => h (wantW_in q)), wantW_no h]
  · unfold storeE storeA
    by_cases h : InH a
    · rw [if_pos h, if_pos (wantW_iff.2 h)]; exact Agr.refl _
    · rw [if_neg h, if_neg (fun q => h (wantW_in q))]; exact Agr.refl _
theorem w2 : WrL S 2 a b c ((zeroA S a (nbI b)).1, 0, (zeroA S a (nbI b)).2) := by
  refine WrL.of (p := zeroE (abE S) a (nbI b)) rfl ?_ ?_
  · unfold zeroE zeroA; split <;> rfl
  · unfold zeroE zeroA; split <;> exact Agr.refl _
theorem w43 : WrL S 43 a b c ((setRefAtA S a b).1, 0, (setRefAtA S a b).2) := by
  refine WrL.of (p := setRefE (abE S) a b) rfl ?_ ?_
  · unfold setRefE setRefAtA
    by_cases h : InH a
    · rw [if_pos h, if_pos (wantW_iff.2 h)]; split <;> rfl
    · rw [if_neg h, if_neg (fun q => h (wantW_in q)), wantW_no h]
  · unfold setRefE setRefAtA
    by_cases h : InH a
    · rw [if_pos h, if_pos (wantW_iff.2 h)]; split <;> exact Agr.refl _
    · rw [if_neg h, if_neg (fun q => h (wantW_in q))]; exact Agr.refl _
theorem w6 : WrL S 6 a b c ((formatA S a (nbI b) (nbI c)).1, 0, (formatA S a (nbI b) (nbI c)).2) := by
  refine WrL.of (p := formatE (abE S) a (nbI b) (nbI c)) rfl ?_ ?_
  · unfold formatE formatA; (repeat' split) <;> rfl
  · unfold formatE formatA; (repeat' split) <;> exact Agr.refl _
theorem fwv_ok (hS : SOk S) (h : onC S a = 0) (i : Int) : (fwV S (opO S (gIx a)) i).2 = fdE (abE S).W a i := by
  have e := (onE_ok (W := (abE S).W) h).2.2
  unfold fwV fdE
  rw [if_pos (show S.W (opO S (gIx a)).k = (opO S (gIx a)).raw from rfl), if_pos (show onE (abE S).W a = 0 from h)]
  have e1 : (((opO S (gIx a)).rf : Nat) : Int) = decRefs (S.W (2 * gIx a)) := by show (((decRefs (S.W (2 * gIx a))).toNat : Nat) : Int) = _; have := e.2.2.1; have e0 : (abE S).W = S.W := rfl; rw [e0] at this; omega
  rw [e1]
  show (if _ then _ else _ : Int × Int).2 = if 0 ≤ i ∧ i < decRefs (S.W (2 * gIx a)) then 0 else 8
  split <;> rfl
theorem dwv_ok (hS : SOk S) (h : onC S a = 0) (i : Int) : (dwV S (opO S (gIx a)) i).2 = dtE (abE S).W a i := by
  have e := (onE_ok (W := (abE S).W) h).2.2
  unfold dwV dtE
  rw [if_pos (show S.W (opO S (gIx a)).k = (opO S (gIx a)).raw from rfl), if_pos (show onE (abE S).W a = 0 from h)]
  have e1 : (((opO S (gIx a)).sz - (opO S (gIx a)).rf : Nat) : Int) = decSize (S.W (2 * gIx a)) - decRefs (S.W (2 * gIx a)) := by
    show (((decSize (S.W (2 * gIx a))).toNat - (decRefs (S.W (2 * gIx a))).toNat : Nat) : Int) = _
    have e0 : (abE S).W = S.W := rfl
    rw [e0] at e
    omega
  rw [e1]
  show (if _ then _ else _ : Int × Int).2 = if 0 ≤ i ∧ i < decSize (S.W (2 * gIx a)) - decRefs (S.W (2 * gIx a)) then 0 else 8
  split <;> rfl
theorem fd_no (h : ¬ onC S a = 0) (i : Int) : fdE (abE S).W a i = onC S a := by unfold fdE; rw [if_neg (show ¬ onE (abE S).W a = 0 from h)]; rfl
theorem dt_no (h : ¬ onC S a = 0) (i : Int) : dtE (abE S).W a i = onC S a := by unfold dtE; rw [if_neg (show ¬ onE (abE S).W a = 0 from h)]; rfl
theorem w12 (hS : SOk S) : WrL S 12 a b c ((arStoreRefA S a (nbI b) c).1, 0, (arStoreRefA S a (nbI b) c).2) := by
  have key : (stRefE (abE S) a (nbI b) c).1 = (arStoreRefA S a (nbI b) c).1 ∧ Agr (stRefE (abE S) a (nbI b) c).2 (abE (arStoreRefA S a (nbI b) c).2) := by
    unfold stRefE arStoreRefA
    by_cases h : onC S a = 0
    · rw [if_pos h]
      unfold stRfA
      rw [fwv_ok hS h]
      split
      · split
        · exact ⟨rfl, Agr.refl _⟩
        · exact ⟨rfl, Agr.refl _⟩
      · exact ⟨rfl, Agr.refl _⟩
    · rw [if_neg h, fd_no h, if_neg h]
      exact ⟨rfl, Agr.refl _⟩
  exact WrL.of (p := stRefE (abE S) a (nbI b) c) rfl key.1 key.2
theorem w14 (hS : SOk S) : WrL S 14 a b c ((arStoreDataA S a (nbI b) c).1, 0, (arStoreDataA S a (nbI b) c).2) := by
  have key : (stDataE (abE S) a (nbI b) c).1 = (arStoreDataA S a (nbI b) c).1 ∧ Agr (stDataE (abE S) a (nbI b) c).2 (abE (arStoreDataA S a (nbI b) c).2) := by
    unfold stDataE arStoreDataA
    by_cases h : onC S a = 0
    · rw [if_pos h]
      unfold stDtA
      rw [dwv_ok hS h]
      split
      · exact ⟨rfl, Agr.refl _⟩
      · exact ⟨rfl, Agr.refl _⟩
    · rw [if_neg h, dt_no h, if_neg h]
      exact ⟨rfl, Agr.refl _⟩
  exact WrL.of (p := stDataE (abE S) a (nbI b) c) rfl key.1 key.2
theorem w8 (hS : SOk S) : WrL S 8 a b c ((eraseA S a).1, 0, (eraseA S a).2) := by
  have key : (eraseE (abE S) a).1 = (eraseA S a).1 ∧ Agr (eraseE (abE S) a).2 (abE (eraseA S a).2) := by
    unfold eraseE eraseA
    by_cases h : onC S a = 0
    · rw [if_pos h, if_pos (show onE (abE S).W a = 0 from h)]
      refine ⟨rfl, ⟨fun i hi => rfl, fun i hi => ?_, fun i hi => ?_, fun i hi => ?_, fun i hi => rfl, rfl⟩⟩
      · show fup (eN 2 32 S.C) (gIx a) 0 i = eN 2 32 (setX 2 32 S.C (2 * gIx a / 2) 0) i
        rw [eN_set wd2 (by decide), show 2 * gIx a / 2 = gIx a by omega]
        by_cases e : i = gIx a
        · rw [e, fup_self, if_pos rfl]
        · rw [fup_ne _ _ e, if_neg e]
      · show fup (nzP 1 64 S.M) (gIx a) false i = nzP 1 64 (setX 1 64 S.M (2 * gIx a / 2) 0) i
        rw [show 2 * gIx a / 2 = gIx a by omega]
        exact (nzP_set (on := false)).symm
      · show flB (nzP 1 64 S.L) (2 * gIx a) (2 * gIx a + (1 + (decSize (S.W (2 * gIx a))).toNat)) false i = nzP 1 64 (fillX 1 64 (2 * gIx a) (2 * gIx a + (1 + (decSize (S.W (2 * gIx a))).toNat)) 0 S.L) i
        exact (nzP_fill (on := false) (by omega) hS.L).symm
    · rw [if_neg h, if_neg (show ¬ onE (abE S).W a = 0 from h)]
      exact ⟨rfl, Agr.refl _⟩
  exact WrL.of (p := eraseE (abE S) a) rfl key.1 key.2
theorem w17 (hb : U64 b) : WrL S 17 a b c ((setCountA S a (smallV b)).1, 0, (setCountA S a (smallV b)).2) := by
  have key : (setCountE (abE S) a b).1 = (setCountA S a (smallV b)).1 ∧ Agr (setCountE (abE S) a b).2 (abE (setCountA S a (smallV b)).2) := by
    unfold setCountE setCountA
    by_cases h : wantO a = 0
    · rw [if_pos h, if_pos h]
      have h0 := hb.1
      by_cases h3 : 3 < b
      · rw [if_pos h3, if_pos (by unfold smallV; split <;> omega)]
        exact ⟨rfl, Agr.refl _⟩
      · have es : smallV b = b := by unfold smallV; rw [if_neg (by omega)]
        rw [if_neg h3, es, if_neg h3]
        refine ⟨rfl, ⟨fun i hi => rfl, fun i hi => ?_, fun i hi => rfl, fun i hi => rfl, fun i hi => rfl, rfl⟩⟩
        show fup (eN 2 32 S.C) (gIx a) b.toNat i = eN 2 32 (setX 2 32 S.C (gIx a) b.toNat) i
        rw [eN_set wd2 (by show b.toNat ≤ 3; omega)]
        by_cases e : i = gIx a
        · rw [e, fup_self, if_pos rfl]
        · rw [fup_ne _ _ e, if_neg e]
    · rw [if_neg h, if_neg h]
      exact ⟨rfl, Agr.refl _⟩
  exact WrL.of (p := setCountE (abE S) a b) rfl key.1 key.2
theorem log_agr (on : Bool) : Agr (setlogE (abE S) a on) (abE (if wantW a = 0 then { S.tch with L := setX 1 64 S.L (wIx a) (bitN on) } else S)) := by
  unfold setlogE
  by_cases h : wantW a = 0
  · rw [if_pos h, if_pos h]
    exact ⟨fun i hi => rfl, fun i hi => rfl, fun i hi => rfl, fun i hi => nzP_set.symm, fun i hi => rfl, rfl⟩
  · rw [if_neg h, if_neg h]; exact Agr.refl _
theorem mark_agr (on : Bool) : Agr (setmarkE (abE S) a on) (abE (if wantO a = 0 then { S.tch with M := setX 1 64 S.M (gIx a) (bitN on) } else S)) := by
  unfold setmarkE
  by_cases h : wantO a = 0
  · rw [if_pos h, if_pos h]
    exact ⟨fun i hi => rfl, fun i hi => rfl, fun i hi => nzP_set.symm, fun i hi => rfl, fun i hi => rfl, rfl⟩
  · rw [if_neg h, if_neg h]; exact Agr.refl _
theorem w19 : WrL S 19 a b c ((setLoggedA S a (b != 0)).1, 0, (setLoggedA S a (b != 0)).2) := by
  refine WrL.of (p := (wantW a, setlogE (abE S) a (b != 0))) rfl ?_ ?_
  · unfold setLoggedA; split
    · rename_i h; exact h
    · rfl
  · have := log_agr (S := S) (a := a) (b != 0)
    unfold setLoggedA
    split <;> rename_i h
    · rw [if_pos h] at this; exact this
    · rw [if_neg h] at this; exact this
theorem w24 : WrL S 24 a b c ((setMarkedA S a (b != 0)).1, 0, (setMarkedA S a (b != 0)).2) := by
  refine WrL.of (p := (wantO a, setmarkE (abE S) a (b != 0))) rfl ?_ ?_
  · unfold setMarkedA; split
    · rename_i h; exact h
    · rfl
  · have := mark_agr (S := S) (a := a) (b != 0)
    unfold setMarkedA
    split <;> rename_i h
    · rw [if_pos h] at this; exact this
    · rw [if_neg h] at this; exact this
theorem beq_int (n : Nat) : (!(((n : Nat) : Int) == 0)) = !(n == 0) := by rw [show ((0 : Int)) = ((0 : Nat) : Int) from rfl, ← beq_cast]
theorem w20 : WrL S 20 a b c (wantW a, ((bitN (if wantW a = 0 then !(((eN 1 64 S.L (wIx a) : Nat) : Int) == 0) else false) : Nat) : Int), tasLoggedA S a) := by
  refine ⟨?_, ?_⟩
  · show rsG (wantW a) _ 0 = rsG (wantW a) ((bitN (nzP 1 64 S.L (wIx a)) : Nat) : Int) 0
    by_cases h : wantW a = 0
    · rw [if_pos h, beq_int]; rfl
    · rw [rsG_bad h, rsG_bad h]
  · exact log_agr (S := S) (a := a) true
theorem w25 : WrL S 25 a b c (wantO a, ((bitN (if wantO a = 0 then !(((eN 1 64 S.M (gIx a) : Nat) : Int) == 0) else false) : Nat) : Int), tasMarkedA S a) := by
  refine ⟨?_, ?_⟩
  · show rsG (wantO a) _ 0 = rsG (wantO a) ((bitN (nzP 1 64 S.M (gIx a)) : Nat) : Int) 0
    by_cases h : wantO a = 0
    · rw [if_pos h, beq_int]; rfl
    · rw [rsG_bad h, rsG_bad h]
  · exact mark_agr (S := S) (a := a) true
theorem w21 (hS : SOk S) : WrL S 21 a b c ((fillLoggedA S a (nbI b) (c != 0)).1, 0, (fillLoggedA S a (nbI b) (c != 0)).2) := by
  have key : (fillE (abE S) a (nbI b) (c != 0)).1 = (fillLoggedA S a (nbI b) (c != 0)).1 ∧ Agr (fillE (abE S) a (nbI b) (c != 0)).2 (abE (fillLoggedA S a (nbI b) (c != 0)).2) := by
    unfold fillE fillLoggedA
    by_cases h : wrCd a (nbI b) = 0
    · rw [if_pos h, if_pos h]
      have hb := wrCd_ok h
      refine ⟨rfl, ⟨fun i hi => rfl, fun i hi => rfl, fun i hi => rfl, fun i hi => ?_, fun i hi => rfl, rfl⟩⟩
      exact (nzP_fill (by omega) hS.L).symm
    · rw [if_neg h, if_neg h]; exact ⟨rfl, Agr.refl _⟩
  exact WrL.of (p := fillE (abE S) a (nbI b) (c != 0)) rfl key.1 key.2
theorem eN_z0 (wd per i : Nat) : eN wd per z0 i = 0 := by
  unfold eN z0 enW
  unfold ent
  simp
theorem w22 : WrL S 22 a b c (0, 0, clearLoggedA S) := by
  refine ⟨rfl, ⟨fun i hi => rfl, fun i hi => rfl, fun i hi => rfl, fun i hi => ?_, fun i hi => rfl, rfl⟩⟩
  show flB (nzP 1 64 S.L) 0 32768 false i = nzP 1 64 (clrX S.L 512) i
  unfold flB nzP
  rw [if_pos (by omega), eN_clr (by omega), eN_z0]; rfl
theorem w26 : WrL S 26 a b c (0, 0, clearMarkedA S) := by
  refine ⟨rfl, ⟨fun i hi => rfl, fun i hi => rfl, fun i hi => ?_, fun i hi => rfl, fun i hi => rfl, rfl⟩⟩
  show flB (nzP 1 64 S.M) 0 16384 false i = nzP 1 64 (clrX S.M 256) i
  unfold flB nzP
  rw [if_pos (by omega), eN_clr (by omega), eN_z0]; rfl
theorem w27 (hS : SOk S) : WrL S 27 a b c ((cmBlockA S (nbI a)).1, 0, (cmBlockA S (nbI a)).2) := by
  have key : (cmE (abE S) (nbI a)).1 = (cmBlockA S (nbI a)).1 ∧ Agr (cmE (abE S) (nbI a)).2 (abE (cmBlockA S (nbI a)).2) := by
    unfold cmE cmBlockA
    generalize nbI a = n
    by_cases h : n < 0 ∨ 64 ≤ n
    · rw [if_pos h, if_neg (by omega)]; exact ⟨rfl, Agr.refl _⟩
    · rw [if_neg h, if_pos (by omega)]
      refine ⟨rfl, ⟨fun i hi => rfl, fun i hi => rfl, fun i hi => ?_, fun i hi => rfl, fun i hi => rfl, rfl⟩⟩
      show cmK (nzP 1 64 S.M) n.toNat 16384 i = nzP 1 64 (fillX 1 64 (n.toNat * 256) ((n.toNat + 1) * 256) (bitN false) S.M) i
      rw [nzP_fill (by omega) hS.M]
      unfold cmK flB
      by_cases hc : i < 16384 ∧ i / 256 = n.toNat
      · rw [if_pos hc, if_pos (by omega)]
      · rw [if_neg hc, if_neg (by omega)]
  exact WrL.of (p := cmE (abE S) (nbI a)) rfl key.1 key.2
theorem w54 : WrL S 54 a b c (0, 0, resetA S) := by
  refine ⟨rfl, ⟨fun i hi => ?_, fun i hi => ?_, fun i hi => ?_, fun i hi => ?_, fun i hi => ?_, rfl⟩⟩
  · show (0 : Nat) = zrW S.W 0 32768 i
    unfold zrW; rw [if_pos (by omega)]
  · show (0 : Nat) = eN 2 32 (clrX S.C 512) i
    rw [eN_clr (by omega), eN_z0]
  · show false = nzP 1 64 (clrX S.M 256) i
    unfold nzP; rw [eN_clr (by omega), eN_z0]; rfl
  · show false = nzP 1 64 (clrX S.L 512) i
    unfold nzP; rw [eN_clr (by omega), eN_z0]; rfl
  · show (0 : Nat) = eN 4 16 (clrX S.T 128) i
    rw [eN_clr (by omega), eN_z0]
theorem w35 (hS : SOk S) : WrL S 35 a b c ((scrubA S (nbI a) (nbI b)).1, 0, (scrubA S (nbI a) (nbI b)).2) := by
  have key : (scrE (abE S) (nbI a) (nbI b)).1 = (scrubA S (nbI a) (nbI b)).1 ∧ Agr (scrE (abE S) (nbI a) (nbI b)).2 (abE (scrubA S (nbI a) (nbI b)).2) := by
    unfold scrE scrubA
    generalize nbI a = x
    generalize nbI b = n
    by_cases h : lrC x n = 0
    · rw [if_pos h, if_pos h]
      have hx : 0 ≤ x ∧ x < 2048 ∧ 1 ≤ n ∧ n ≤ 2048 - x := by
        unfold lrC at h
        split at h
        · unfold lenG at h
          split at h
          · exact absurd h (by decide)
          · split at h
            · exact absurd h (by decide)
            · omega
        · exact absurd h (by decide)
      have e : izE (abE S).T x.toNat n.toNat = true ↔ azP S x.toNat (x.toNat + n.toNat) := izE_iff _ _ _
      by_cases hz : azP S x.toNat (x.toNat + n.toNat)
      · rw [if_pos hz, if_pos (e.2 hz)]
        generalize hk : x.toNat = k at *
        generalize hm : n.toNat = m at *
        have e1 : (k + m) * 16 = 16 * k + 16 * m := by omega
        have e2 : (k + m) * 8 = 8 * k + (16 * m + 1) / 2 := by omega
        refine ⟨rfl, ⟨fun i hi => ?_, fun i hi => ?_, fun i hi => ?_, fun i hi => ?_, fun i hi => rfl, rfl⟩⟩
        · show zrW S.W (16 * k) (16 * k + 16 * m) i = zrW S.W (k * 16) ((k + m) * 16) i
          rw [e1, Nat.mul_comm k 16]
        · show zrW (eN 2 32 S.C) (8 * k) (8 * k + (16 * m + 1) / 2) i = eN 2 32 (fillX 2 32 (k * 8) ((k + m) * 8) 0 S.C) i
          rw [eN_fill wd2 (by omega) (by decide) hS.C, e2, Nat.mul_comm k 8]
          rfl
        · show flB (nzP 1 64 S.M) (8 * k) (8 * k + (16 * m + 1) / 2) false i = nzP 1 64 (fillX 1 64 (k * 8) ((k + m) * 8) (bitN false) S.M) i
          rw [nzP_fill (by omega) hS.M, e2, Nat.mul_comm k 8]
        · show flB (nzP 1 64 S.L) (16 * k) (16 * k + 16 * m) false i = nzP 1 64 (fillX 1 64 (k * 16) ((k + m) * 16) (bitN false) S.L) i
          rw [nzP_fill (by omega) hS.L, e1, Nat.mul_comm k 16]
      · rw [if_neg hz, if_neg (fun q => hz (e.1 q))]; exact ⟨rfl, Agr.refl _⟩
    · rw [if_neg h, if_neg h]; exact ⟨rfl, Agr.refl _⟩
  exact WrL.of (p := scrE (abE S) (nbI a) (nbI b)) rfl key.1 key.2
theorem lenO_G (k m : Int) : lenOut k m = lenG k m 32768 := rfl
theorem sh_bounds {n : Int} (hz : wantO a = 0) (h : lenG ((2 * gIx a : Nat) : Int) n 32768 = 0) : 1 ≤ n.toNat ∧ 2 * gIx a + n.toNat ≤ 32768 ∧ n = ((n.toNat : Nat) : Int) := by
  unfold lenG at h
  split at h
  · exact absurd h (by decide)
  · split at h
    · exact absurd h (by decide)
    · omega
theorem w29 (hS : SOk S) : WrL S 29 a b c ((occA S a (nbI b)).1, 0, (occA S a (nbI b)).2) := by
  have key : (shE (abE S) a (nbI b) 1).1 = (occA S a (nbI b)).1 ∧ Agr (shE (abE S) a (nbI b) 1).2 (abE (occA S a (nbI b)).2) := by
    unfold shE occA exC
    generalize nbI b = n
    by_cases hz : wantO a = 0
    · rw [if_pos hz, if_pos hz]
      rw [lenO_G]
      by_cases h : lenG ((2 * gIx a : Nat) : Int) n 32768 = 0
      · rw [if_pos h, if_pos h]
        obtain ⟨b1, b2, b3⟩ := sh_bounds hz h
        generalize 2 * gIx a = k at *
        generalize n.toNat = m at *
        have hle : k / 16 ≤ (k + m - 1) / 16 := Nat.div_le_div_right (by omega)
        have hlt : (k + m - 1) / 16 < 2048 := by omega
        have e : ShP (abE S).T (k / 16) ((k + m - 1) / 16 + 1 - k / 16) 1 ↔ ¬ anyP S (loL k) (hiL k m + 1) 15 := by
          unfold loL hiL
          constructor
          · rintro hp ⟨i, i1, i2, i3⟩
            have := (hp (i - k / 16) (by omega)).2
            rw [show k / 16 + (i - k / 16) = i by omega] at this
            have e3 : (abE S).T i = 15 := i3
            rw [e3] at this
            omega
          · intro hp i hi
            refine ⟨by omega, ?_⟩
            have h15 := abE_T S (k / 16 + i)
            by_cases e : (abE S).T (k / 16 + i) = 15
            · exact absurd ⟨k / 16 + i, by omega, by omega, e⟩ hp
            · omega
        by_cases hp : anyP S (loL k) (hiL k m + 1) 15
        · rw [if_pos hp, if_neg (fun q => (e.1 q) hp)]; exact ⟨rfl, Agr.refl _⟩
        · rw [if_neg hp, if_pos (e.2 hp)]
          refine ⟨rfl, ⟨fun i hi => rfl, fun i hi => rfl, fun i hi => rfl, fun i hi => rfl, fun i hi => ?_, rfl⟩⟩
          show shT (eN 4 16 S.T) (k / 16) ((k + m - 1) / 16 + 1) 1 i = eN 4 16 (wOf (incR (k / 16) ((k + m - 1) / 16 + 1) (eN 4 16 S.T))) i
          have hf : ∀ i, incR (k / 16) ((k + m - 1) / 16 + 1) (eN 4 16 S.T) i < 16 := fun i => by
            unfold incR
            have h16 := eN_lt 4 16 S.T i
            cases hr : inR (k / 16) ((k + m - 1) / 16 + 1) i
            · show eN 4 16 S.T i + 0 < 16; omega
            · have hh := inR_iff.1 hr
              have hne : eN 4 16 S.T i ≠ 15 := fun e => hp ⟨i, hh.1, hh.2, e⟩
              show eN 4 16 S.T i + 1 < 16; omega
          rw [eN_wOf hf]
          unfold shT incR
          by_cases hr : k / 16 ≤ i ∧ i < (k + m - 1) / 16 + 1
          · rw [if_pos hr, inR_iff.2 hr]
            show _ = eN 4 16 S.T i + 1
            omega
          · rw [if_neg hr, Bool.eq_false_iff.2 (fun q => hr (inR_iff.1 q))]
            rfl
      · rw [if_neg h, if_neg h]; exact ⟨rfl, Agr.refl _⟩
    · rw [if_neg hz, if_neg hz, if_neg hz]; exact ⟨rfl, Agr.refl _⟩
  exact WrL.of (p := shE (abE S) a (nbI b) 1) rfl key.1 key.2
theorem w30 (hS : SOk S) : WrL S 30 a b c ((vacA S a (nbI b)).1, 0, (vacA S a (nbI b)).2) := by
  have key : (shE (abE S) a (nbI b) (-1)).1 = (vacA S a (nbI b)).1 ∧ Agr (shE (abE S) a (nbI b) (-1)).2 (abE (vacA S a (nbI b)).2) := by
    unfold shE vacA exC
    generalize nbI b = n
    by_cases hz : wantO a = 0
    · rw [if_pos hz, if_pos hz]
      rw [lenO_G]
      by_cases h : lenG ((2 * gIx a : Nat) : Int) n 32768 = 0
      · rw [if_pos h, if_pos h]
        obtain ⟨b1, b2, b3⟩ := sh_bounds hz h
        generalize 2 * gIx a = k at *
        generalize n.toNat = m at *
        have hle : k / 16 ≤ (k + m - 1) / 16 := Nat.div_le_div_right (by omega)
        have hlt : (k + m - 1) / 16 < 2048 := by omega
        have e : ShP (abE S).T (k / 16) ((k + m - 1) / 16 + 1 - k / 16) (-1) ↔ ¬ anyP S (loL k) (hiL k m + 1) 0 := by
          unfold loL hiL
          constructor
          · rintro hp ⟨i, i1, i2, i3⟩
            have := (hp (i - k / 16) (by omega)).1
            rw [show k / 16 + (i - k / 16) = i by omega] at this
            have e3 : (abE S).T i = 0 := i3
            rw [e3] at this
            omega
          · intro hp i hi
            have h15 := abE_T S (k / 16 + i)
            refine ⟨?_, by omega⟩
            by_cases e : (abE S).T (k / 16 + i) = 0
            · exact absurd ⟨k / 16 + i, by omega, by omega, e⟩ hp
            · omega
        by_cases hp : anyP S (loL k) (hiL k m + 1) 0
        · rw [if_pos hp, if_neg (fun q => (e.1 q) hp)]; exact ⟨rfl, Agr.refl _⟩
        · rw [if_neg hp, if_pos (e.2 hp)]
          refine ⟨rfl, ⟨fun i hi => rfl, fun i hi => rfl, fun i hi => rfl, fun i hi => rfl, fun i hi => ?_, rfl⟩⟩
          show shT (eN 4 16 S.T) (k / 16) ((k + m - 1) / 16 + 1) (-1) i = eN 4 16 (wOf (decR (k / 16) ((k + m - 1) / 16 + 1) (eN 4 16 S.T))) i
          have hf : ∀ i, decR (k / 16) ((k + m - 1) / 16 + 1) (eN 4 16 S.T) i < 16 := fun i => by
            unfold decR
            have h16 := eN_lt 4 16 S.T i
            exact Nat.lt_of_le_of_lt (Nat.sub_le _ _) h16
          rw [eN_wOf hf]
          unfold shT decR
          by_cases hr : k / 16 ≤ i ∧ i < (k + m - 1) / 16 + 1
          · rw [if_pos hr, inR_iff.2 hr]
            have hne : eN 4 16 S.T i ≠ 0 := fun e => hp ⟨i, hr.1, hr.2, e⟩
            show _ = eN 4 16 S.T i - 1
            omega
          · rw [if_neg hr, Bool.eq_false_iff.2 (fun q => hr (inR_iff.1 q))]
            rfl
      · rw [if_neg h, if_neg h]; exact ⟨rfl, Agr.refl _⟩
    · rw [if_neg hz, if_neg hz, if_neg hz]; exact ⟨rfl, Agr.refl _⟩
  exact WrL.of (p := shE (abE S) a (nbI b) (-1)) rfl key.1 key.2
/-- Every writing step. -/
theorem plW_law (hS : SOk S) (hb : U64 b) {k : Nat} {r : Int × Int × AS} (h : plW S k a b c = some r) : WrL S k a b c r := by
  unfold plW at h
  split at h
  all_goals cases h
  · exact w1
  · exact w2
  · exact w6
  · exact w8 hS
  · exact w12 hS
  · exact w14 hS
  · exact w17 hb
  · exact w19
  · exact w20
  · exact w21 hS
  · exact w22
  · exact w24
  · exact w25
  · exact w26
  · exact w27 hS
  · exact w29 hS
  · exact w30 hS
  · exact w35 hS
  · exact w43
  · exact w54
end
end Go.Proofs.Qxb6500887aGreat
