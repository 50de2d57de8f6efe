/- Step whole (written by tools/mk_awh.py). -/
import Derived.Test.Qxb6500887aGreatAwD1
import Derived.Test.Qxb6500887aGreatAwD2
import Derived.Test.Qxb6500887aGreatAwD3
import Derived.Test.Qxb6500887aGreatAwD4
import Derived.Test.Qxb6500887aGreatAwD5
import Derived.Test.Qxb6500887aGreatAwE1
import Derived.Test.Qxb6500887aGreatAwE2
import Derived.Test.Qxb6500887aGreatAwF1
import Derived.Test.Qxb6500887aGreatAwF2
import Derived.Test.Qxb6500887aGreatAwF3
import Derived.Test.Qxb6500887aGreatAwF4
import Derived.Test.Qxb6500887aGreatAwG
namespace Go.Proofs.Qxb6500887aGreat
open Go.RowKit
set_option linter.unusedSimpArgs false
set_option linter.unusedVariables false
/-- What a step of the model answers, and what becomes of the model. -/
noncomputable def stR (E : ES) (k : Nat) (a b c : Int) : List Value × ES := match k with
  | 0 => (rsG (wantW a) ((E.W (wIx a) : Nat) : Int) 0, E)
  | 1 => (rsC (storeE E a b).1 0 0, (storeE E a b).2)
  | 2 => (rsC (zeroE E a (nbI b)).1 0 0, (zeroE E a (nbI b)).2)
  | 3 => (izR E a (nbI b), E)
  | 4 => (encE a b, E)
  | 5 => (decE a, E)
  | 6 => (rsC (formatE E a (nbI b) (nbI c)).1 0 0, (formatE E a (nbI b) (nbI c)).2)
  | 7 => (headE E.W a, E)
  | 8 => (rsC (eraseE E a).1 0 0, (eraseE E a).2)
  | 9 => (rsG (fdE E.W a (nbI b)) ((65536 + fdAt a (nbI b) : Nat) : Int) 0, E)
  | 10 => (rsG (dtE E.W a (nbI b)) ((65536 + dtAt E.W a (nbI b) : Nat) : Int) 0, E)
  | 11 => (ldRefE E a (nbI b), E)
  | 12 => (rsC (stRefE E a (nbI b) c).1 0 0, (stRefE E a (nbI b) c).2)
  | 13 => (rsG (dtE E.W a (nbI b)) ((E.W (dtAt E.W a (nbI b)) : Nat) : Int) 0, E)
  | 14 => (rsC (stDataE E a (nbI b) c).1 0 0, (stDataE E a (nbI b) c).2)
  | 15 => (scanE E.W a, E)
  | 16 => (rsG (wantO a) ((E.C (gIx a) : Nat) : Int) 0, E)
  | 17 => (rsC (setCountE E a b).1 0 0, (setCountE E a b).2)
  | 18 => (rsG (wantW a) ((bitN (E.G (wIx a)) : Nat) : Int) 0, E)
  | 19 => (rsC (wantW a) 0 0, (setlogE E a (b != 0)))
  | 20 => (rsG (wantW a) ((bitN (E.G (wIx a)) : Nat) : Int) 0, (setlogE E a true))
  | 21 => (rsC (fillE E a (nbI b) (c != 0)).1 0 0, (fillE E a (nbI b) (c != 0)).2)
  | 22 => (rsC 0 0 0, (clrLE E))
  | 23 => (rsG (wantO a) ((bitN (E.K (gIx a)) : Nat) : Int) 0, E)
  | 24 => (rsC (wantO a) 0 0, (setmarkE E a (b != 0)))
  | 25 => (rsG (wantO a) ((bitN (E.K (gIx a)) : Nat) : Int) 0, (setmarkE E a true))
  | 26 => (rsC 0 0 0, (clrKE E))
  | 27 => (rsC (cmE E (nbI a)).1 0 0, (cmE E (nbI a)).2)
  | 28 => (tallyE E (nbI a), E)
  | 29 => (rsC (shE E a (nbI b) 1).1 0 0, (shE E a (nbI b) 1).2)
  | 30 => (rsC (shE E a (nbI b) (-1)).1 0 0, (shE E a (nbI b) (-1)).2)
  | 31 => (flnE E (nbI a), E)
  | 32 => (clsE E (nbI a), E)
  | 33 => (fhR E.T (nbI a) (nbI b) 1, E)
  | 34 => (fbR E.T (nbI a) (nbI b), E)
  | 35 => (rsC (scrE E (nbI a) (nbI b)).1 0 0, (scrE E (nbI a) (nbI b)).2)
  | 36 => (noR (hit36 E) a b, E)
  | 37 => (noR (hit37 E) a b, E)
  | 38 => (nlR E a b, E)
  | 39 => (noR (hit39 E) a b, E)
  | 40 => (usA E, E)
  | 41 => (auA E, E)
  | 42 => (refAtE E a, E)
  | 43 => (rsC (setRefE E a b).1 0 0, (setRefE E a b).2)
  | 44 => (ssR E.W a (nbI b) (nbI c), E)
  | 45 => (efR E.W a b.toNat, E)
  | 46 => (owE E a, E)
  | 47 => (hsdE E a, E)
  | 48 => (fhR E.T (nbI a) (nbI b) (nbI c), E)
  | 49 => (lhR E.T (nbI a), E)
  | 50 => (clR E.C (nbI a) (nbI b), E)
  | 51 => (ecR E (nbI a) b.toNat, E)
  | 52 => (elR E a b c.toNat, E)
  | 53 => (rsC 0 ((E.v : Nat) : Int) 0, E)
  | 54 => (rsC 0 0 0, (rstE E))
  | 55 => (bmA E (nbI a), E)
  | 56 => (txA (hmL E), E)
  | 57 => (txA (dsL E a.toNat), E)
  | 58 => (txA (placeL a.toNat), E)
  | 59 => (liA E, E)
  | 60 => (biA E (nbI a), E)
  | 61 => (ceA E, E)
  | 62 => (deR a, E)
  | 63 => (szR (nbI a), E)
  | 64 => (btR (hit64 E) true a b, E)
  | 65 => (btR (hit65 E) true a b, E)
  | 66 => (btR (hit66 E) false a b, E)
  | _ => (rsC 11 0 0, E)
section
variable {l : ML} {E : ES} {w : World}
theorem stR_else {E : ES} {k : Nat} {a b c : Int} (h : k ∉ [0, 1, 2, 3, 42, 43, 4, 5, 6, 7, 8, 9, 11, 12, 10, 13, 14, 15, 44, 45, 46, 47, 16, 17, 23, 24, 25, 18, 19, 20, 21, 22, 26, 27, 28, 29, 30, 31, 32, 33, 48, 49, 34, 35, 50, 36, 37, 39, 38, 52, 51, 64, 65, 66, 53, 54, 62, 63]) (h2 : k ∉ [40, 41, 59, 61, 60, 55, 56, 58, 57]) : stR E k a b c = (rsC 11 0 0, E) := by
  simp only [List.mem_cons, List.not_mem_nil, or_false, not_or] at h h2
  unfold stR
  split
  all_goals first | rfl | omega
theorem stepM (h : MM l E w) (k : Nat) (a b c : Int) (ha : U64 a) (hb : U64 b) (hc : U64 c) : Calls Tryz.prog 14 #[.pointer (some ⟨l.m, 0, none⟩), .agg #[.int .u8 (k : Int), .int .u64 a, .int .u64 b, .int .u64 c]] w fun e w' => e = .returned (.agg (stR E k a b c).1.toArray) ∧ Hid (MR w l (stR E k a b c).2 w') := by
  by_cases hk : k ∈ [0, 1, 2, 3, 42, 43, 4, 5, 6, 7, 8, 9, 11, 12, 10, 13, 14, 15, 44, 45, 46, 47, 16, 17, 23, 24, 25, 18, 19, 20, 21, 22, 26, 27, 28, 29, 30, 31, 32, 33, 48, 49, 34, 35, 50, 36, 37, 39, 38, 52, 51, 64, 65, 66, 53, 54, 62, 63]
  · simp only [List.mem_cons, List.not_mem_nil, or_false] at hk
    rcases hk with rfl | rfl | rfl | rfl | rfl | rfl | rfl | rfl | rfl | rfl | rfl | rfl | rfl | rfl | rfl | rfl | rfl | rfl | rfl | rfl | rfl | rfl | rfl | rfl | rfl | rfl | rfl | rfl | rfl | rfl | rfl | rfl | rfl | rfl | rfl | rfl | rfl | rfl | rfl | rfl | rfl | rfl | rfl | rfl | rfl | rfl | rfl | rfl | rfl | rfl | rfl | rfl | rfl | rfl | rfl | rfl | rfl | rfl
    · exact (st0 h a b c ha hb hc).mono (fun e w' q => ⟨q.1, hid q.2.out.mr⟩)
    · exact (st1 h a b c ha hb hc).mono (fun e w' q => ⟨q.1, hid q.2.out.mr⟩)
    · exact (st2 h a b c ha hb hc).mono (fun e w' q => ⟨q.1, hid q.2.out.mr⟩)
    · exact (st3 h a b c ha hb hc).mono (fun e w' q => ⟨q.1, hid q.2.out.mr⟩)
    · exact (st42 h a b c ha hb hc).mono (fun e w' q => ⟨q.1, hid q.2.out.mr⟩)
    · exact (st43 h a b c ha hb hc).mono (fun e w' q => ⟨q.1, hid q.2.out.mr⟩)
    · exact (st4 h a b c ha hb hc).mono (fun e w' q => ⟨q.1, hid q.2.out.mr⟩)
    · exact (st5 h a b c ha hb hc).mono (fun e w' q => ⟨q.1, hid q.2.out.mr⟩)
    · exact (st6 h a b c ha hb hc).mono (fun e w' q => ⟨q.1, hid q.2.out.mr⟩)
    · exact (st7 h a b c ha hb hc).mono (fun e w' q => ⟨q.1, hid q.2.out.mr⟩)
    · exact (st8 h a b c ha hb hc).mono (fun e w' q => ⟨q.1, hid q.2.out.mr⟩)
    · exact (st9 h a b c ha hb hc).mono (fun e w' q => ⟨q.1, hid q.2.out.mr⟩)
    · exact (st11 h a b c ha hb hc).mono (fun e w' q => ⟨q.1, hid q.2.out.mr⟩)
    · exact (st12 h a b c ha hb hc).mono (fun e w' q => ⟨q.1, hid q.2.out.mr⟩)
    · exact (st10 h a b c ha hb hc).mono (fun e w' q => ⟨q.1, hid q.2.out.mr⟩)
    · exact (st13 h a b c ha hb hc).mono (fun e w' q => ⟨q.1, hid q.2.out.mr⟩)
    · exact (st14 h a b c ha hb hc).mono (fun e w' q => ⟨q.1, hid q.2.out.mr⟩)
    · exact (st15 h a b c ha hb hc).mono (fun e w' q => ⟨q.1, hid q.2.out.mr⟩)
    · exact (st44 h a b c ha hb hc).mono (fun e w' q => ⟨q.1, hid q.2.out.mr⟩)
    · exact (st45 h a b c ha hb hc).mono (fun e w' q => ⟨q.1, hid q.2.out.mr⟩)
    · exact (st46 h a b c ha hb hc).mono (fun e w' q => ⟨q.1, hid q.2.out.mr⟩)
    · exact (st47 h a b c ha hb hc).mono (fun e w' q => ⟨q.1, hid q.2.out.mr⟩)
    · exact (st16 h a b c ha hb hc).mono (fun e w' q => ⟨q.1, hid q.2.out.mr⟩)
    · exact (st17 h a b c ha hb hc).mono (fun e w' q => ⟨q.1, hid q.2.out.mr⟩)
    · exact (st23 h a b c ha hb hc).mono (fun e w' q => ⟨q.1, hid q.2.out.mr⟩)
    · exact (st24 h a b c ha hb hc).mono (fun e w' q => ⟨q.1, hid q.2.out.mr⟩)
    · exact (st25 h a b c ha hb hc).mono (fun e w' q => ⟨q.1, hid q.2.out.mr⟩)
    · exact (st18 h a b c ha hb hc).mono (fun e w' q => ⟨q.1, hid q.2.out.mr⟩)
    · exact (st19 h a b c ha hb hc).mono (fun e w' q => ⟨q.1, hid q.2.out.mr⟩)
    · exact (st20 h a b c ha hb hc).mono (fun e w' q => ⟨q.1, hid q.2.out.mr⟩)
    · exact (st21 h a b c ha hb hc).mono (fun e w' q => ⟨q.1, hid q.2.out.mr⟩)
    · exact (st22 h a b c ha hb hc).mono (fun e w' q => ⟨q.1, hid q.2.out.mr⟩)
    · exact (st26 h a b c ha hb hc).mono (fun e w' q => ⟨q.1, hid q.2.out.mr⟩)
    · exact (st27 h a b c ha hb hc).mono (fun e w' q => ⟨q.1, hid q.2.out.mr⟩)
    · exact (st28 h a b c ha hb hc).mono (fun e w' q => ⟨q.1, hid q.2.out.mr⟩)
    · exact (st29 h a b c ha hb hc).mono (fun e w' q => ⟨q.1, hid q.2.out.mr⟩)
    · exact (st30 h a b c ha hb hc).mono (fun e w' q => ⟨q.1, hid q.2.out.mr⟩)
    · exact (st31 h a b c ha hb hc).mono (fun e w' q => ⟨q.1, hid q.2.out.mr⟩)
    · exact (st32 h a b c ha hb hc).mono (fun e w' q => ⟨q.1, hid q.2.out.mr⟩)
    · exact (st33 h a b c ha hb hc).mono (fun e w' q => ⟨q.1, hid q.2.out.mr⟩)
    · exact (st48 h a b c ha hb hc).mono (fun e w' q => ⟨q.1, hid q.2.out.mr⟩)
    · exact (st49 h a b c ha hb hc).mono (fun e w' q => ⟨q.1, hid q.2.out.mr⟩)
    · exact (st34 h a b c ha hb hc).mono (fun e w' q => ⟨q.1, hid q.2.out.mr⟩)
    · exact (st35 h a b c ha hb hc).mono (fun e w' q => ⟨q.1, hid q.2.out.mr⟩)
    · exact (st50 h a b c ha hb hc).mono (fun e w' q => ⟨q.1, hid q.2.out.mr⟩)
    · exact (st36 h a b c ha hb hc).mono (fun e w' q => ⟨q.1, hid q.2.out.mr⟩)
    · exact (st37 h a b c ha hb hc).mono (fun e w' q => ⟨q.1, hid q.2.out.mr⟩)
    · exact (st39 h a b c ha hb hc).mono (fun e w' q => ⟨q.1, hid q.2.out.mr⟩)
    · exact (st38 h a b c ha hb hc).mono (fun e w' q => ⟨q.1, hid q.2.out.mr⟩)
    · exact (st52 h a b c ha hb hc).mono (fun e w' q => ⟨q.1, hid q.2.out.mr⟩)
    · exact (st51 h a b c ha hb hc).mono (fun e w' q => ⟨q.1, hid q.2.out.mr⟩)
    · exact (st64 h a b c ha hb hc).mono (fun e w' q => ⟨q.1, hid q.2.out.mr⟩)
    · exact (st65 h a b c ha hb hc).mono (fun e w' q => ⟨q.1, hid q.2.out.mr⟩)
    · exact (st66 h a b c ha hb hc).mono (fun e w' q => ⟨q.1, hid q.2.out.mr⟩)
    · exact (st53 h a b c ha hb hc).mono (fun e w' q => ⟨q.1, hid q.2.out.mr⟩)
    · exact (st54 h a b c ha hb hc)
    · exact (st62 h a b c ha hb hc).mono (fun e w' q => ⟨q.1, hid q.2.out.mr⟩)
    · exact (st63 h a b c ha hb hc).mono (fun e w' q => ⟨q.1, hid q.2.out.mr⟩)
  · by_cases hk2 : k ∈ [40, 41, 59, 61, 60, 55, 56, 58, 57]
    · simp only [List.mem_cons, List.not_mem_nil, or_false] at hk2
      rcases hk2 with rfl | rfl | rfl | rfl | rfl | rfl | rfl | rfl | rfl
      · exact (st40 h a b c ha hb hc).mono (fun e w' q => ⟨q.1, hid q.2.out.mr⟩)
      · exact (st41 h a b c ha hb hc).mono (fun e w' q => ⟨q.1, hid q.2.out.mr⟩)
      · exact (st59 h a b c ha hb hc).mono (fun e w' q => ⟨q.1, hid q.2.out.mr⟩)
      · exact (st61 h a b c ha hb hc).mono (fun e w' q => ⟨q.1, hid q.2.out.mr⟩)
      · exact (st60 h a b c ha hb hc).mono (fun e w' q => ⟨q.1, hid q.2.out.mr⟩)
      · exact (st55 h a b c ha hb hc).mono (fun e w' q => ⟨q.1, hid q.2.out.mr⟩)
      · exact (st56 h a b c ha hb hc).mono (fun e w' q => ⟨q.1, hid q.2.out.mr⟩)
      · exact (st58 h a b c ha hb hc).mono (fun e w' q => ⟨q.1, hid q.2.out.mr⟩)
      · exact (st57 h a b c ha hb hc).mono (fun e w' q => ⟨q.1, hid q.2.out.mr⟩)
    · rw [stR_else hk hk2]
      exact (stRest h k hk hk2 a b c).mono (fun e w' q => ⟨q.1, hid q.2.out.mr⟩)
end
end Go.Proofs.Qxb6500887aGreat
