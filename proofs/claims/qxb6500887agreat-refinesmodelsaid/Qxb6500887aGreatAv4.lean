/- The reading steps of playObjects and of playLines answer as the model's, plainly. -/
import Derived.Test.Qxb6500887aGreatAv3
namespace Go.Proofs.Qxb6500887aGreat
open Go.RowKit
set_option linter.unusedSimpArgs false
set_option linter.unusedVariables false
theorem noF_nx {P : Nat → Bool} {lo hi : Nat} {r : Int} (hl : lo ≤ hi) (h : Nx P lo hi r) : noF P hi (hi - lo) = if r < 0 then none else some r.toNat := by
  have skip : ∀ d, lo + d ≤ hi → (∀ i, lo ≤ i → i < lo + d → P i = false) → noF P hi (hi - lo) = noF P hi (hi - (lo + d)) := by
    intro d
    induction d with
    | zero => intro _ _; rfl
    | succ d ih =>
      intro hd hf
      rw [ih (by omega) (fun i h1 h2 => hf i h1 (by omega)), noF_step (by omega), if_neg (by rw [hf (lo + d) (by omega) (by omega)]; decide)]
      rfl
  rcases h with ⟨rfl, hall⟩ | ⟨k, rfl, h1, h2, h3, h4⟩
  · rw [skip (hi - lo) (by omega) (fun i i1 i2 => hall i i1 (by omega)), show hi - (lo + (hi - lo)) = 0 by omega]; rfl
  · rw [skip (k - lo) (by omega) (fun i i1 i2 => h4 i i1 (by omega)), show lo + (k - lo) = k by omega, noF_step h2, if_pos h3, if_neg (by omega)]
    simp
section
variable {S : AS} {a b c : Int}
theorem ng_no {H : Nat → Bool} {v cd : Int} (h : NgP H a b v cd) : rsG cd v 0 = noR H a b := by
  unfold noR
  rcases h with ⟨h1, h2, h3⟩ | ⟨h1, h2, r, h3, h4⟩
  · rw [if_neg h1, h3]; exact rsG_bad h1
  · rw [if_pos h1, h2, rsG_ok]
    obtain ⟨s1, s2, _⟩ := stC_ok h1
    rw [noF_nx (Nat.div_le_div_right s1) h3, h4]
    by_cases hr : r < 0
    · rw [if_pos hr, if_pos hr]
    · rw [if_neg hr, if_neg hr]
      show rsC 0 (65536 + r * 2) 0 = rsC 0 ((65536 + 2 * r.toNat : Nat) : Int) 0
      rw [show (65536 : Int) + r * 2 = ((65536 + 2 * r.toNat : Nat) : Int) by omega]
theorem rd36 {v cd : Int} (h : NgP (nzP 2 32 S.C) a b v cd) : rsG cd v 0 = (stR (abE S) 36 a b c).1 := ng_no h
theorem rd37 {v cd : Int} (h : NgP (nzP 1 64 S.M) a b v cd) : rsG cd v 0 = (stR (abE S) 37 a b c).1 := ng_no h
theorem rd39 {v cd : Int} (h : NgP (ndP S) a b v cd) : rsG cd v 0 = (stR (abE S) 39 a b c).1 := by
  have e : ndP S = hit39 (abE S) := by
    funext i
    show (nzP 2 32 S.C i && (eN 1 64 S.M i == 0)) = (nzP 2 32 S.C i && !(!(eN 1 64 S.M i == 0)))
    rw [Bool.not_not]
  rw [e] at h
  exact ng_no h
theorem rd38 {v cd : Int} (h : NwP (nzP 1 64 S.L) a b v cd) : rsG cd v 0 = (stR (abE S) 38 a b c).1 := by
  show _ = nlR (abE S) a b
  unfold nlR
  rcases h with ⟨h1, h2, h3⟩ | ⟨h1, h2, r, h3, h4⟩
  · rw [if_neg h1, h3]; exact rsG_bad h1
  · rw [if_pos h1, h2, rsG_ok]
    obtain ⟨s1, s2, _⟩ := stC_ok h1
    rw [show (abE S).G = nzP 1 64 S.L from rfl, noF_nx s1 h3, h4]
    by_cases hr : r < 0
    · rw [if_pos hr, if_pos hr]
    · rw [if_neg hr, if_neg hr]
      show rsC 0 (65536 + r) 0 = rsC 0 ((65536 + r.toNat : Nat) : Int) 0
      rw [show (65536 : Int) + r = ((65536 + r.toNat : Nat) : Int) by omega]
/-- Counting the even places. -/
theorem cnt_even {G : Nat → Bool} {lo : Nat} (hl : lo % 2 = 0) : ∀ m, cnt (fun i => decide ((lo + i) % 2 = 0) && G ((lo + i) / 2)) (2 * m) = cnt (fun j => G (lo / 2 + j)) m
  | 0 => rfl
  | m + 1 => by
    rw [show 2 * (m + 1) = 2 * m + 1 + 1 by omega]
    show cnt _ (2 * m) + (decide ((lo + 2 * m) % 2 = 0) && G ((lo + 2 * m) / 2)).toNat + (decide ((lo + (2 * m + 1)) % 2 = 0) && G ((lo + (2 * m + 1)) / 2)).toNat = cnt (fun j => G (lo / 2 + j)) m + (G (lo / 2 + m)).toNat
    rw [cnt_even hl m, decide_eq_true (show (lo + 2 * m) % 2 = 0 by omega), decide_eq_false (show ¬ (lo + (2 * m + 1)) % 2 = 0 by omega), show (lo + 2 * m) / 2 = lo / 2 + m by omega]
    simp
theorem bt_gran {G : Nat → Bool} {m : Nat} {cd : Int} (h1 : cd = stC a b true) (h2 : cd = 0 → m = cnt (fun i => G (wIx a / 2 + i)) (wIx b / 2 - wIx a / 2)) : rsG cd (IntKind.u64.wrap (m : Int)) 0 = btR (fun i => decide (i % 2 = 0) && G (i / 2)) true a b := by
  unfold btR
  by_cases hc : cd = 0
  · have hz : stC a b true = 0 := by rw [← h1]; exact hc
    rw [if_pos hz, hc, rsG_ok, h2 hc]
    obtain ⟨s1, s2, s3, s4, s5, s6, s7⟩ := stC_ok hz
    have ev := s7 rfl
    have e : wIx b - wIx a = 2 * (wIx b / 2 - wIx a / 2) := by omega
    unfold btN
    rw [e, cnt_even (by omega), wrap_nat (Nat.lt_of_le_of_lt (cnt_bound _ _) (by omega))]
  · rw [if_neg (by rw [← h1]; exact hc), ← h1]
    exact rsG_bad hc
theorem rd64 {m : Nat} {cd v : Int} (h : cd = stC a b true ∧ (cd = 0 → m = cnt (fun i => nzP 2 32 S.C (wIx a / 2 + i)) (wIx b / 2 - wIx a / 2))) (hv : IntKind.u64.wrap (m : Int) = v) : rsG cd v 0 = (stR (abE S) 64 a b c).1 := by rw [← hv]; exact bt_gran (G := nzP 2 32 S.C) h.1 h.2
theorem rd65 {m : Nat} {cd v : Int} (h : cd = stC a b true ∧ (cd = 0 → m = cnt (fun i => nzP 1 64 S.M (wIx a / 2 + i)) (wIx b / 2 - wIx a / 2))) (hv : IntKind.u64.wrap (m : Int) = v) : rsG cd v 0 = (stR (abE S) 65 a b c).1 := by rw [← hv]; exact bt_gran (G := nzP 1 64 S.M) h.1 h.2
theorem rd66 {m : Nat} {cd v : Int} (h : cd = stC a b false ∧ (cd = 0 → m = cnt (fun i => nzP 1 64 S.L (wIx a + i)) (wIx b - wIx a))) (hv : IntKind.u64.wrap (m : Int) = v) : rsG cd v 0 = (stR (abE S) 66 a b c).1 := by
  rw [← hv]
  show _ = btR (hit66 (abE S)) false a b
  unfold btR
  by_cases hc : cd = 0
  · have hz : stC a b false = 0 := by rw [← h.1]; exact hc
    rw [if_pos hz, hc, rsG_ok, h.2 hc]
    obtain ⟨s1, s2, _⟩ := stC_ok hz
    rw [wrap_nat (Nat.lt_of_le_of_lt (cnt_bound _ _) (by omega))]
    rfl
  · rw [if_neg (by rw [← h.1]; exact hc), ← h.1]
    exact rsG_bad hc
theorem rdo15 (h : ¬ onC S a = 0) : rsC (onC S a) 0 0 = (stR (abE S) 15 a b c).1 := by
  show _ = scanE (abE S).W a
  unfold scanE
  rw [if_neg (show ¬ onE (abE S).W a = 0 from h)]; rfl
theorem rdo47 (h : ¬ onC S a = 0) : rsC (onC S a) 0 0 = (stR (abE S) 47 a b c).1 := by
  show _ = hsdE (abE S) a
  unfold hsdE
  rw [if_neg (show ¬ onE (abE S).W a = 0 from h)]; rfl
theorem rdo44 (h : ¬ onC S a = 0) : rsC (onC S a) 0 0 = (stR (abE S) 44 a b c).1 := by
  show _ = ssR (abE S).W a (nbI b) (nbI c)
  unfold ssR
  rw [if_neg (show ¬ onE (abE S).W a = 0 from h)]; rfl
theorem rdo45 (h : ¬ onC S a = 0) : rsC (onC S a) 0 0 = (stR (abE S) 45 a b c).1 := by
  show _ = efR (abE S).W a b.toNat
  unfold efR
  rw [if_neg (show ¬ onE (abE S).W a = 0 from h)]; rfl
theorem on_rf (h : onC S a = 0) : decRefs (S.W (2 * gIx a)) = ((rfN S.W (gIx a) : Nat) : Int) ∧ decSize (S.W (2 * gIx a)) = ((szN S.W (gIx a) : Nat) : Int) ∧ 1 ≤ szN S.W (gIx a) ∧ szN S.W (gIx a) ≤ 8192 ∧ rfN S.W (gIx a) ≤ szN S.W (gIx a) ∧ 2 * gIx a + 1 + szN S.W (gIx a) ≤ 32768 := by
  obtain ⟨k1, k2, k3⟩ := onE_op (W := S.W) (x := a) h
  obtain ⟨o1, o2, o3, o4, o5, o6⟩ := opW_ok k2 k3
  exact ⟨o2, o1, o3, o4, o5, o6⟩
theorem sc_ok {o : Ob} {cd : Int} {xs : List Nat} {k n : Nat} {u : Option Int} {u2 : Int} (hn : n ≤ 8192) (hxs : (rfAll S k n ∧ cd = 0 ∧ xs = rfsL S k n) ∨ (¬ rfAll S k n ∧ cd = 9)) (hu : cd = 0 → u2 = u.getD ((sumU xs : Nat) : Int)) : rsG cd (IntKind.u64.wrap ((xs.length : Nat) : Int)) u2 = scR S.W k n u := by
  rcases hxs with ⟨h1, h2, h3⟩ | ⟨h1, h2⟩
  · rw [scR_ok (show rfAllW S.W k n from h1), h2, rsG_ok, hu h2, h3]
    have hl := rfsW_len S.W k n
    rw [show rfsL S k n = rfsW S.W k n from rfl, wrap_nat (by omega)]
  · rw [scR_no (show ¬ rfAllW S.W k n from h1), h2]; rfl
theorem rd15 {o : Ob} {cd : Int} {xs : List Nat} (h : onC S a = 0) (ho : opO S (gIx a) = o) (hxs : (S.W o.k ≠ o.raw) ∨ (rfAll S (o.k + 1) o.rf ∧ cd = 0 ∧ xs = rfsL S (o.k + 1) o.rf) ∨ (¬ rfAll S (o.k + 1) o.rf ∧ cd = 9)) : rsG cd (IntKind.u64.wrap ((xs.length : Nat) : Int)) ((sumU xs : Nat) : Int) = (stR (abE S) 15 a b c).1 := by
  show _ = scanE (abE S).W a
  unfold scanE
  rw [if_pos (show onE (abE S).W a = 0 from h)]
  obtain ⟨r1, r2, r3, r4, r5, r6⟩ := on_rf h
  subst ho
  rcases hxs with hx | hx
  · exact absurd rfl hx
  · have e : (opO S (gIx a)).rf = rfN S.W (gIx a) := rfl
    rw [e] at hx
    exact sc_ok (o := opO S (gIx a)) (n := rfN S.W (gIx a)) (by omega) hx (fun _ => rfl)
/-- AppendSomeRefs, without the row. -/
def As0 (S : AS) (o : Ob) (fr mo : Int) (xs : List Nat) (nx c : Int) : Prop := (S.W o.k ≠ o.raw) ∨ (¬ (0 ≤ fr ∧ fr ≤ (o.rf : Int)) ∧ c = 8) ∨ ((0 ≤ fr ∧ fr ≤ (o.rf : Int)) ∧ mo < 1 ∧ c = 4) ∨ ((0 ≤ fr ∧ fr ≤ (o.rf : Int)) ∧ 1 ≤ mo ∧ ∃ m : Nat, (m : Int) = (if mo < (o.rf : Int) - fr then mo else (o.rf : Int) - fr) ∧ ((rfAll S (o.k + 1 + fr.toNat) m ∧ c = 0 ∧ nx = fr + (m : Int) ∧ xs = rfsL S (o.k + 1 + fr.toNat) m) ∨ (¬ rfAll S (o.k + 1 + fr.toNat) m ∧ c = 9)))
theorem rd44 {o : Ob} {cd nx v2 n2 nb nc : Int} {xs : List Nat} (h : onC S a = 0) (ho : opO S (gIx a) = o) (hb : nbI b = nb) (hc : nbI c = nc) (hxs : As0 S o nb nc xs nx cd) (hv : IntKind.u64.wrap ((xs.length : Nat) : Int) = v2) (hn : IntKind.u64.wrap nx = n2) : rsG cd v2 n2 = (stR (abE S) 44 a b c).1 := by
  show _ = ssR (abE S).W a (nbI b) (nbI c)
  unfold ssR
  rw [if_pos (show onE (abE S).W a = 0 from h), hb, hc]
  obtain ⟨r1, r2, r3, r4, r5, r6⟩ := on_rf h
  subst ho
  have e : (opO S (gIx a)).rf = rfN S.W (gIx a) := rfl
  have ek : (opO S (gIx a)).k = 2 * gIx a := rfl
  have eW : (abE S).W = S.W := rfl
  rw [eW, r1]
  unfold As0 at hxs
  rw [e, ek] at hxs
  rcases hxs with hx | ⟨h1, h2⟩ | ⟨h1, h2, h3⟩ | ⟨h1, h2, m, h3, h4⟩
  · exact absurd rfl hx
  · rw [if_neg h1, h2]; exact rsG_bad (by decide)
  · rw [if_pos h1, if_pos h2, h3]; exact rsG_bad (by decide)
  · rw [if_pos h1, if_neg (by omega)]
    have hm : (ssT ((rfN S.W (gIx a) : Nat) : Int) nb nc).toNat - nb.toNat = m ∧ ssT ((rfN S.W (gIx a) : Nat) : Int) nb nc = nb + (m : Int) ∧ m ≤ 8192 := by
      unfold ssT
      split at h3
      · rw [if_pos (by omega)]; omega
      · rw [if_neg (by omega)]; omega
    rw [hm.1, hm.2.1, ← hv]
    refine sc_ok (o := opO S (gIx a)) hm.2.2 ?_ ?_
    · rcases h4 with ⟨q1, q2, q3, q4⟩ | ⟨q1, q2⟩
      · exact .inl ⟨q1, q2, q4⟩
      · exact .inr ⟨q1, q2⟩
    · intro hc0
      rcases h4 with ⟨q1, q2, q3, q4⟩ | ⟨q1, q2⟩
      · rw [← hn, q3, IntKind.wrap_u64]
        show _ = nb + (m : Int)
        omega
      · rw [q2] at hc0; exact absurd hc0 (by decide)
theorem rd47 {o : Ob} {bb : Bool} (h : onC S a = 0) (ho : opO S (gIx a) = o) (hv : hsV S o = bb) : rsC 0 ((bitN bb : Nat) : Int) 0 = (stR (abE S) 47 a b c).1 := by
  show _ = hsdE (abE S) a
  unfold hsdE
  rw [if_pos (show onE (abE S).W a = 0 from h)]
  obtain ⟨r1, r2, r3, r4, r5, r6⟩ := on_rf h
  subst ho
  have : hsE (abE S).T (2 * gIx a) (1 + szN (abE S).W (gIx a)) = bb := by
    rw [← hv]
    unfold hsV
    rw [if_pos (show S.W (opO S (gIx a)).k = (opO S (gIx a)).raw from rfl)]
    show hsE (eN 4 16 S.T) (2 * gIx a) (1 + szN S.W (gIx a)) = (((hiL (2 * gIx a) (1 + szN S.W (gIx a)) : Nat) : Int) + 1 - ((loL (2 * gIx a) : Nat) : Int) - ((cnt (fun i => inR (loL (2 * gIx a)) (hiL (2 * gIx a) (1 + szN S.W (gIx a)) + 1) i && !(eN 4 16 S.T i == 0)) 2048 : Nat) : Int) == 0)
    generalize szN S.W (gIx a) = sz at *
    generalize 2 * gIx a = k at *
    unfold loL hiL
    have hle : k / 16 ≤ (k + (1 + sz) - 1) / 16 := Nat.div_le_div_right (by omega)
    rw [cnt_inR (fun i => !(eN 4 16 S.T i == 0)) (by omega) (by omega)]
    have hn := cnt_not (fun i => (eN 4 16 S.T (k / 16 + i) == 0)) ((k + (1 + sz) - 1) / 16 + 1 - k / 16)
    have hx : hsE (eN 4 16 S.T) k (1 + sz) = true ↔ ∀ i, k ≤ i → i < k + (1 + sz) → eN 4 16 S.T (i / 16) ≠ 0 := by unfold hsE; exact @decide_eq_true_iff _ (Classical.propDecidable _)
    have hzc : cnt (fun i => (eN 4 16 S.T (k / 16 + i) == 0)) ((k + (1 + sz) - 1) / 16 + 1 - k / 16) = 0 ↔ ∀ i, k ≤ i → i < k + (1 + sz) → eN 4 16 S.T (i / 16) ≠ 0 := by
      constructor
      · intro h0 i i1 i2 i3
        have hlt : i / 16 - k / 16 < (k + (1 + sz) - 1) / 16 + 1 - k / 16 := by
          have : i / 16 ≤ (k + (1 + sz) - 1) / 16 := Nat.div_le_div_right (by omega)
          omega
        have hge : k / 16 ≤ i / 16 := Nat.div_le_div_right i1
        have := cnt_lt (P := fun _ => false) (Q := fun i => (eN 4 16 S.T (k / 16 + i) == 0)) (h := (k + (1 + sz) - 1) / 16 + 1 - k / 16) (fun i _ hf => by cases hf) ⟨i / 16 - k / 16, hlt, by show (eN 4 16 S.T (k / 16 + (i / 16 - k / 16)) == 0) = true; rw [show k / 16 + (i / 16 - k / 16) = i / 16 by omega, i3]; rfl, rfl⟩
        omega
      · intro h0
        refine cnt_zero (fun i hi => ?_)
        have hw : ∃ j, k ≤ j ∧ j < k + (1 + sz) ∧ j / 16 = k / 16 + i := by
          by_cases hi0 : i = 0
          · exact ⟨k, by omega, by omega, by omega⟩
          · exact ⟨16 * (k / 16 + i), by omega, by omega, by omega⟩
        obtain ⟨j, j1, j2, j3⟩ := hw
        have := h0 j j1 j2
        rw [j3] at this
        simpa using this
    rw [Bool.eq_iff_iff, hx, ← hzc]
    simp only [beq_iff_eq]
    omega
  rw [this]
theorem lastNz_pv {C : Nat → Nat} {n : Nat} {r : Int} (h : Pv (fun i => !(C i == 0)) 0 n r) : lastNz C n = if r < 0 then none else some r.toNat := by
  rcases h with ⟨rfl, hall⟩ | ⟨k, rfl, h1, h2, h3, h4⟩
  · rw [if_pos (by decide)]
    have : ∀ m, m ≤ n → lastNz C m = none := by
      intro m
      induction m with
      | zero => intro _; rfl
      | succ m ih =>
        intro hm
        unfold lastNz
        have := hall m (Nat.zero_le _) (by omega)
        rw [if_pos (by simpa using this)]
        exact ih (by omega)
    exact this n (Nat.le_refl _)
  · rw [if_neg (by omega)]
    have : ∀ m, k < m → m ≤ n → lastNz C m = some k := by
      intro m
      induction m with
      | zero => intro h; omega
      | succ m ih =>
        intro hk hm
        unfold lastNz
        by_cases e : m = k
        · rw [e, if_neg (by simpa using h3)]
        · have := h4 m (by omega) (by omega)
          rw [if_pos (by simpa using this)]
          exact ih (by omega) (by omega)
    rw [this n h2 (Nat.le_refl _)]
    simp
end
end Go.Proofs.Qxb6500887aGreat
