/- The model's Step: what it answers (written by tools/mk_awc.py). -/
import Derived.Test.Qxb6500887aGreatAwB
import Derived.Deep.DeepCutAuto
namespace Go.Proofs.Qxb6500887aGreat
open Go.RowKit
set_option linter.unusedSimpArgs false
set_option linter.unusedVariables false
theorem nbI_rng (x : Int) : -9223372036854775808 ≤ nbI x ∧ nbI x < 9223372036854775808 := by unfold nbI wrap64; omega
def storeE (E : ES) (a b : Int) : Int × ES := if wantW a = 0 then (0, { E.tch with W := fup E.W (wIx a) b.toNat }) else (wantW a, E)
noncomputable def refAtE (E : ES) (a : Int) : List Value := if wantW a = 0 then (if rfOk ((E.W (wIx a) : Nat) : Int) then rsC 0 ((E.W (wIx a) : Nat) : Int) 0 else rsC 9 0 0) else rsC (wantW a) 0 0
noncomputable def setRefE (E : ES) (a b : Int) : Int × ES := if wantW a = 0 then (if rfOk b then (0, { E.tch with W := fup E.W (wIx a) b.toNat }) else (9, E)) else (wantW a, E)
def encE (a b : Int) : List Value := if hdrCheck (nbI a) (nbI b) = 0 then rsC 0 ((13186539708940812288 + b * 65536 + a) % 18446744073709551616) 0 else rsC (hdrCheck (nbI a) (nbI b)) 0 0
noncomputable def decE (a : Int) : List Value := if isHdr a then rsC 0 (decSize a) (decRefs a) else rsC 6 0 0
def headE (W : Nat → Nat) (a : Int) : List Value := if onE W a = 0 then rsC 0 ((szN W (gIx a) : Nat) : Int) ((rfN W (gIx a) : Nat) : Int) else rsC (onE W a) 0 0
noncomputable def scanE (W : Nat → Nat) (a : Int) : List Value := if onE W a = 0 then scR W (2 * gIx a + 1) (rfN W (gIx a)) none else rsC (onE W a) 0 0
noncomputable def hsdE (E : ES) (a : Int) : List Value := if onE E.W a = 0 then rsC 0 ((bitN (hsE E.T (2 * gIx a) (1 + szN E.W (gIx a))) : Nat) : Int) 0 else rsC (onE E.W a) 0 0
def tallyE (E : ES) (n : Int) : List Value := if n < 0 ∨ 2048 ≤ n then rsC 1 0 0 else rsC 0 ((E.T n.toNat : Nat) : Int) 0
def flnE (E : ES) (n : Int) : List Value := if n < 0 ∨ 64 ≤ n then rsC 1 0 0 else rsC 0 ((flE E.T n.toNat 32 : Nat) : Int) 0
def clsE (E : ES) (n : Int) : List Value := if n < 0 ∨ 64 ≤ n then rsC 1 0 0 else rsC 0 (clM (flE E.T n.toNat 32)) 0
def clrLE (E : ES) : ES := { E.tch with G := flB E.G 0 32768 false }
def clrKE (E : ES) : ES := { E.tch with K := flB E.K 0 16384 false }
theorem gIx_w {a : Int} (h : wantO a = 0) : wIx a = 2 * gIx a := by
  obtain ⟨h1, h2⟩ := wantO_ok h
  obtain ⟨g1, g2, g3⟩ := gIx_of h
  obtain ⟨k1, k2⟩ := wIx_of h1
  omega
theorem rk_izR (E : ES) (x n : Int) : RsOk (izR E x n) := by
  unfold izR
  (repeat' split) <;> first | exact RsOk.c _ _ _ | exact RsOk.g _ _ _
theorem rk_ldRefE (E : ES) (x n : Int) : RsOk (ldRefE E x n) := by
  unfold ldRefE
  (repeat' split) <;> first | exact RsOk.c _ _ _ | exact RsOk.g _ _ _
theorem rk_owE (E : ES) (a : Int) : RsOk (owE E a) := by
  unfold owE
  (repeat' split) <;> first | exact RsOk.c _ _ _ | exact RsOk.g _ _ _
theorem rk_clR (C : Nat → Nat) (a b : Int) : RsOk (clR C a b) := by
  unfold clR
  (repeat' split) <;> first | exact RsOk.c _ _ _ | exact RsOk.g _ _ _
theorem rk_lhR (T : Nat → Nat) (a : Int) : RsOk (lhR T a) := by
  unfold lhR
  (repeat' split) <;> first | exact RsOk.c _ _ _ | exact RsOk.g _ _ _
theorem rk_fhR (T : Nat → Nat) (a b c : Int) : RsOk (fhR T a b c) := by
  unfold fhR
  (repeat' split) <;> first | exact RsOk.c _ _ _ | exact RsOk.g _ _ _
theorem rk_deR (a : Int) : RsOk (deR a) := by
  unfold deR
  (repeat' split) <;> first | exact RsOk.c _ _ _ | exact RsOk.g _ _ _
theorem rk_szR (a : Int) : RsOk (szR a) := by
  unfold szR
  (repeat' split) <;> first | exact RsOk.c _ _ _ | exact RsOk.g _ _ _
theorem rk_efR (W : Nat → Nat) (a : Int) (mo : Nat) : RsOk (efR W a mo) := by
  unfold efR
  (repeat' split) <;> first | exact RsOk.c _ _ _ | exact RsOk.g _ _ _
theorem rk_fbR (T : Nat → Nat) (a b : Int) : RsOk (fbR T a b) := by
  unfold fbR
  (repeat' split) <;> first | exact RsOk.c _ _ _ | exact RsOk.g _ _ _
theorem rk_noR (H : Nat → Bool) (a b : Int) : RsOk (noR H a b) := by
  unfold noR
  (repeat' split) <;> first | exact RsOk.c _ _ _ | exact RsOk.g _ _ _
theorem rk_btR (H : Nat → Bool) (al : Bool) (a b : Int) : RsOk (btR H al a b) := by
  unfold btR
  (repeat' split) <;> first | exact RsOk.c _ _ _ | exact RsOk.g _ _ _
theorem rk_elR (E : ES) (a b : Int) (mo : Nat) : RsOk (elR E a b mo) := by
  unfold elR
  (repeat' split) <;> first | exact RsOk.c _ _ _ | exact RsOk.g _ _ _
theorem rk_nlR (E : ES) (a b : Int) : RsOk (nlR E a b) := by
  unfold nlR
  (repeat' split) <;> first | exact RsOk.c _ _ _ | exact RsOk.g _ _ _
theorem rk_ecR (E : ES) (b : Int) (mo : Nat) : RsOk (ecR E b mo) := by
  unfold ecR
  (repeat' split) <;> first | exact RsOk.c _ _ _ | exact RsOk.g _ _ _
theorem rk_refAtE (E : ES) (a : Int) : RsOk (refAtE E a) := by
  unfold refAtE
  (repeat' split) <;> first | exact RsOk.c _ _ _ | exact RsOk.g _ _ _
theorem rk_encE (a b : Int) : RsOk (encE a b) := by
  unfold encE
  (repeat' split) <;> first | exact RsOk.c _ _ _ | exact RsOk.g _ _ _
theorem rk_decE (a : Int) : RsOk (decE a) := by
  unfold decE
  (repeat' split) <;> first | exact RsOk.c _ _ _ | exact RsOk.g _ _ _
theorem rk_headE (W : Nat → Nat) (a : Int) : RsOk (headE W a) := by
  unfold headE
  (repeat' split) <;> first | exact RsOk.c _ _ _ | exact RsOk.g _ _ _
theorem rk_hsdE (E : ES) (a : Int) : RsOk (hsdE E a) := by
  unfold hsdE
  (repeat' split) <;> first | exact RsOk.c _ _ _ | exact RsOk.g _ _ _
theorem rk_tallyE (E : ES) (n : Int) : RsOk (tallyE E n) := by
  unfold tallyE
  (repeat' split) <;> first | exact RsOk.c _ _ _ | exact RsOk.g _ _ _
theorem rk_flnE (E : ES) (n : Int) : RsOk (flnE E n) := by
  unfold flnE
  (repeat' split) <;> first | exact RsOk.c _ _ _ | exact RsOk.g _ _ _
theorem rk_clsE (E : ES) (n : Int) : RsOk (clsE E n) := by
  unfold clsE
  (repeat' split) <;> first | exact RsOk.c _ _ _ | exact RsOk.g _ _ _
theorem rk_scR (W : Nat → Nat) (k n : Nat) (u : Option Int) : RsOk (scR W k n u) := by
  unfold scR
  (repeat' split) <;> first | exact RsOk.c _ _ _ | exact RsOk.g _ _ _
theorem rk_ssR (W : Nat → Nat) (a b c : Int) : RsOk (ssR W a b c) := by
  unfold ssR
  (repeat' split) <;> first | exact RsOk.c _ _ _ | exact rk_scR _ _ _ _
theorem rk_scanE (W : Nat → Nat) (a : Int) : RsOk (scanE W a) := by
  unfold scanE
  split
  · exact rk_scR _ _ _ _
  · exact RsOk.c _ _ _
theorem rk_us (E : ES) : RsOk (usA E) := RsOk.of rfl
theorem rk_au (E : ES) : RsOk (auA E) := RsOk.of rfl
theorem rk_li (E : ES) : RsOk (liA E) := RsOk.of rfl
theorem rk_ce (E : ES) : RsOk (ceA E) := RsOk.of rfl
theorem rk_tx (s : List UInt8) : RsOk (txA s) := RsOk.of rfl
theorem rk_bi (E : ES) (n : Int) : RsOk (biA E n) := by
  unfold biA
  split
  · exact RsOk.c _ _ _
  · exact RsOk.of rfl
theorem rk_bm (E : ES) (n : Int) : RsOk (bmA E n) := by
  unfold bmA
  split
  · exact RsOk.c _ _ _
  · exact RsOk.of rfl
end Go.Proofs.Qxb6500887aGreat
