/- OwnerOf answers as the model's, plainly; the visits. -/
import Derived.Test.Qxb6500887aGreatAv4
namespace Go.Proofs.Qxb6500887aGreat
open Go.RowKit
set_option linter.unusedSimpArgs false
set_option linter.unusedVariables false
section
variable {l : AL} {S : AS} {a b c : Int}
theorem rd46r {rs : List Value} {cd : Int} (h : OwP l S a rs cd) (hc : cd ≠ 0) : rsC cd 0 0 = (stR (abE S) 46 a b c).1 := by
  show _ = owE (abE S) a
  unfold owE
  rcases h with ⟨h1, h2, h3⟩ | ⟨h1, r, hr, h⟩
  · rw [if_neg (fun q => h1 (wantW_in q)), wantW_no h1, h2]
  · rw [if_pos (wantW_iff.2 h1), lastNz_pv (C := (abE S).C) hr]
    rcases h with ⟨h2, h3, h4⟩ | ⟨g, h2, h3, h⟩
    · rw [h2, if_pos (by decide), h3]
    · rw [h2, if_neg (by omega)]
      show rsC cd 0 0 = if opC S ((g : Int).toNat) = 0 then _ else _
      rw [show ((g : Int).toNat) = g from rfl]
      rcases h with ⟨k1, k2, k3⟩ | ⟨k1, k2, k3, k4⟩ | ⟨k1, k2, k3, _⟩
      · rw [if_neg k1, k2]; rfl
      · rw [if_pos k1, k3]
        obtain ⟨o1, o2, o3, o4, o5, o6⟩ := opW_ok (show opW S.W g = 0 from k1) h3
        rw [if_pos ?_]
        show 2 * (g : Int) + decSize (S.W (2 * g)) < ((wIx a : Nat) : Int)
        have e : (opO S g).sz = szN S.W g := rfl
        omega
      · exact absurd k3 hc
theorem rd46o {rs : List Value} (h : OwP l S a rs 0) : ∃ o, ObOk o ∧ rs = obL l o ∧ rsC 0 (65536 + (o.k : Int)) 0 = (stR (abE S) 46 a b c).1 := by
  show ∃ o, ObOk o ∧ rs = obL l o ∧ _ = owE (abE S) a
  unfold owE
  rcases h with ⟨h1, h2, h3⟩ | ⟨h1, r, hr, h⟩
  · exact absurd h2 (by decide)
  · rw [if_pos (wantW_iff.2 h1), lastNz_pv (C := (abE S).C) hr]
    rcases h with ⟨h2, h3, h4⟩ | ⟨g, h2, h3, h⟩
    · exact absurd h3 (by decide)
    · rw [h2, if_neg (by omega)]
      rcases h with ⟨k1, k2, k3⟩ | ⟨k1, k2, k3, k4⟩ | ⟨k1, k2, k3, k4, k5⟩
      · exact absurd k2.symm k1
      · exact absurd k3 (by decide)
      · refine ⟨_, k4, k5, ?_⟩
        show rsC 0 (65536 + ((2 * g : Nat) : Int)) 0 = if opC S ((g : Int).toNat) = 0 then _ else _
        rw [show ((g : Int).toNat) = g from rfl, if_pos k1]
        obtain ⟨o1, o2, o3, o4, o5, o6⟩ := opW_ok (show opW S.W g = 0 from k1) h3
        rw [if_neg ?_]
        · rw [show ((65536 + 2 * g : Nat) : Int) = 65536 + ((2 * g : Nat) : Int) by omega]
        · show ¬ 2 * (g : Int) + decSize (S.W (2 * g)) < ((wIx a : Nat) : Int)
          have e : (opO S g).sz = szN S.W g := rfl
          omega
/-- What the visits have come to at q, or at the end. -/
def EvI (H : Nat → Bool) (f : Nat → Nat) (lo : Nat) (mo n : Nat) (q : Option Nat) (xv xt : Nat) : Prop := match q with
  | some q => lo ≤ q ∧ xv = cnt H (q - lo) ∧ xt = evT H f mo (q - lo) ∧ (cnt H (q - lo) = 0 ∨ cnt H (q - lo) < mo)
  | none => xv = evV H mo n ∧ xt = evT H f mo n
theorem EvI.start {H : Nat → Bool} {f : Nat → Nat} {lo mo n : Nat} : EvI H f lo mo n (some lo) 0 0 := by
  refine ⟨Nat.le_refl _, ?_, ?_, .inl ?_⟩ <;> rw [Nat.sub_self] <;> rfl
theorem EvI.skip {H : Nat → Bool} {f : Nat → Nat} {lo mo n q xv xt : Nat} (h : EvI H f lo mo n (some q) xv xt) (hq : H (q - lo) = false) : EvI H f lo mo n (some (q + 1)) xv xt := by
  obtain ⟨h1, h2, h3, h4⟩ := h
  obtain ⟨e1, e2⟩ := ev_skip (f := f) (mo := mo) hq
  have e : q + 1 - lo = q - lo + 1 := by omega
  refine ⟨by omega, ?_, ?_, ?_⟩
  · rw [e, e1]; exact h2
  · rw [e, e2]; exact h3
  · rw [e, e1]; exact h4
theorem EvI.hit {H : Nat → Bool} {f : Nat → Nat} {lo mo n q xv xt : Nat} (h : EvI H f lo mo n (some q) xv xt) (hq : H (q - lo) = true) (hn : q < lo + n) : EvI H f lo mo n (if decide (xv + 1 < mo) then some (q + 1) else none) (xv + 1) ((xt + f (q - lo)) % 18446744073709551616) := by
  obtain ⟨h1, h2, h3, h4⟩ := h
  obtain ⟨e1, e2⟩ := ev_hit (f := f) (mo := mo) hq (by omega)
  have e : q + 1 - lo = q - lo + 1 := by omega
  by_cases hm : xv + 1 < mo
  · rw [if_pos (decide_eq_true hm)]
    refine ⟨by omega, ?_, ?_, ?_⟩
    · rw [e, e1]; omega
    · rw [e, e2, h3]
    · rw [e, e1]; omega
  · rw [if_neg (by simpa using hm)]
    obtain ⟨s1, s2⟩ := ev_stop (H := H) (f := f) (mo := mo) (q := q - lo + 1) (n := n) (by omega) (by omega)
    refine ⟨by rw [s1]; omega, by rw [s2, e2, h3]⟩
theorem EvI.fin {H : Nat → Bool} {f : Nat → Nat} {lo mo n xv xt : Nat} {q : Option Nat} (h : EvI H f lo mo n q xv xt) (hq : q = none ∨ q = some (lo + n)) : xv = evV H mo n ∧ xt = evT H f mo n := by
  rcases hq with rfl | rfl
  · exact h
  · obtain ⟨h1, h2, h3, h4⟩ := h
    rw [show lo + n - lo = n by omega] at h2 h3 h4
    refine ⟨?_, h3⟩
    unfold evV
    omega
theorem EvI.lt {H : Nat → Bool} {f : Nat → Nat} {lo mo n xv xt : Nat} {q : Nat} (h : EvI H f lo mo n (some q) xv xt) : xv ≤ q - lo ∧ xt < 18446744073709551616 := by
  obtain ⟨h1, h2, h3, h4⟩ := h
  exact ⟨by rw [h2]; exact cnt_bound _ _, by rw [h3]; exact evT_lt _⟩
theorem rd51 {na cd : Int} {xv xt : Nat} {q : Option Nat} (ha : nbI a = na) (hc : (if 0 ≤ na ∧ na < 64 then (0 : Int) else 1) = cd) (h : EvI (ecH (abE S) (na.toNat * 256)) (ecF (abE S) (na.toNat * 256)) (na.toNat * 256) b.toNat 256 q xv xt) (hq : 0 ≤ na ∧ na < 64 → q = none ∨ q = some ((na.toNat + 1) * 256)) : rsG cd ((xv : Nat) : Int) ((xt : Nat) : Int) = (stR (abE S) 51 a b c).1 := by
  show _ = ecR (abE S) (nbI a) b.toNat
  unfold ecR
  rw [ha]
  by_cases hn : 0 ≤ na ∧ na < 64
  · rw [if_neg (by omega), ← hc, if_pos hn, rsG_ok]
    obtain ⟨h1, h2⟩ := h.fin (by rw [show na.toNat * 256 + 256 = (na.toNat + 1) * 256 by omega]; exact hq hn)
    rw [h1, h2, Nat.mul_comm na.toNat 256]
  · rw [if_pos (by omega), ← hc, if_neg hn]; rfl
theorem rd52 {cd : Int} {xv xt : Nat} {q : Option Nat} (hc : stC a b false = cd) (h : EvI (elH (abE S) (wIx a)) (elF (wIx a)) (wIx a) c.toNat (wIx b - wIx a) q xv xt) (hq : cd = 0 → q = none ∨ q = some (wIx b)) : rsG cd ((xv : Nat) : Int) ((xt : Nat) : Int) = (stR (abE S) 52 a b c).1 := by
  show _ = elR (abE S) a b c.toNat
  unfold elR
  rw [hc]
  by_cases hn : cd = 0
  · rw [if_pos hn, hn, rsG_ok]
    obtain ⟨s1, s2, _⟩ := stC_ok (by rw [hc]; exact hn)
    obtain ⟨h1, h2⟩ := h.fin (by rw [show wIx a + (wIx b - wIx a) = wIx b by omega]; exact hq hn)
    rw [h1, h2]
  · rw [if_neg hn]; exact rsG_bad hn
/-- EachField's visits. -/
def EfI (W : Nat → Nat) (f mo q xv xt : Nat) : Prop := xv = q ∧ xt = efT W f q ∧ (q = 0 ∨ q < mo) ∧ ∀ i, i < q → rfOk ((W (f + i) : Nat) : Int)
def EfD (W : Nat → Nat) (f mo n xv xt : Nat) : Prop := xv = visN n mo ∧ xt = efT W f (visN n mo) ∧ ∀ i, i < visN n mo → rfOk ((W (f + i) : Nat) : Int)
theorem rd45 {o : Ob} {cd : Int} {xv xt : Nat} (h : onC S a = 0) (ho : opO S (gIx a) = o) (hE : (cd = ckC S o ∧ cd ≠ 0) ∨ (cd = 9 ∧ ∃ i, i < o.rf ∧ EfI S.W (o.k + 1) b.toNat i xv xt ∧ ¬ rfOk ((S.W (o.k + 1 + i) : Nat) : Int)) ∨ (cd = 0 ∧ (EfI S.W (o.k + 1) b.toNat o.rf xv xt ∨ EfD S.W (o.k + 1) b.toNat o.rf xv xt))) : rsG cd ((xv : Nat) : Int) ((xt : Nat) : Int) = (stR (abE S) 45 a b c).1 := by
  show _ = efR (abE S).W a b.toNat
  unfold efR
  rw [if_pos (show onE (abE S).W a = 0 from h)]
  obtain ⟨r1, r2, r3, r4, r5, r6⟩ := on_rf h
  subst ho
  have e : (opO S (gIx a)).rf = rfN S.W (gIx a) := rfl
  have ek : (opO S (gIx a)).k = 2 * gIx a := rfl
  have eW : (abE S).W = S.W := rfl
  rw [eW, r1]
  rw [e, ek] at hE
  have et : ((rfN S.W (gIx a) : Nat) : Int).toNat = rfN S.W (gIx a) := rfl
  rw [et]
  generalize rfN S.W (gIx a) = n at *
  rcases hE with ⟨h1, h2⟩ | ⟨h1, i, i1, ⟨k1, k2, k3, k4⟩, i3⟩ | ⟨h1, h2⟩
  · exact absurd (h1.trans (by unfold ckC; exact if_pos rfl)) h2
  · rw [if_neg (fun hall => i3 (hall i (by unfold visN; omega))), h1]; rfl
  · have hf : EfD S.W (2 * gIx a + 1) b.toNat n xv xt := by
      rcases h2 with ⟨k1, k2, k3, k4⟩ | h2
      · have : visN n b.toNat = n := by unfold visN; omega
        refine ⟨by omega, by rw [this]; exact k2, by rw [this]; exact k4⟩
      · exact h2
    obtain ⟨k1, k2, k3⟩ := hf
    rw [if_pos (show rfAllW S.W (2 * gIx a + 1) (visN n b.toNat) from k3), h1, rsG_ok, k1, k2]
end
end Go.Proofs.Qxb6500887aGreat
