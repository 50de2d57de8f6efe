/- The reading steps of playLines answer as the model's, plainly: tallies, holes, runs of free blocks. -/
import Derived.Test.Qxb6500887aGreatAv5
namespace Go.Proofs.Qxb6500887aGreat
open Go.RowKit
set_option linter.unusedSimpArgs false
set_option linter.unusedVariables false
section
variable {S : AS} {a b c : Int}
theorem rd28 {na v2 : Int} (ha : nbI a = na) (hv : IntKind.u64.wrap (if 0 ≤ na ∧ na < 2048 then ((eN 4 16 S.T na.toNat : Nat) : Int) else 0) = v2) : rsG (if 0 ≤ na ∧ na < 2048 then (0 : Int) else 1) v2 0 = (stR (abE S) 28 a b c).1 := by
  show _ = tallyE (abE S) (nbI a)
  unfold tallyE
  rw [ha, ← hv]
  by_cases h : 0 ≤ na ∧ na < 2048
  · rw [if_pos h, if_pos h, if_neg (by omega), rsG_ok, wrap_nat (Nat.lt_of_lt_of_le (eN_lt 4 16 S.T _) (by decide))]; rfl
  · rw [if_neg h, if_neg h, if_pos (by omega)]; rfl
theorem flV_b {na : Int} (h : BkI na) : flV S na = ((flE (abE S).T na.toNat 32 : Nat) : Int) := by
  obtain ⟨n, rfl, hn⟩ := h.nat
  exact flV_eq S hn
theorem rd31 {na v2 : Int} (ha : nbI a = na) (hv : IntKind.u64.wrap (flV S na) = v2) : rsG (blC na) v2 0 = (stR (abE S) 31 a b c).1 := by
  show _ = flnE (abE S) (nbI a)
  unfold flnE blC
  rw [ha, ← hv]
  by_cases h : BkI na
  · rw [if_pos h, if_neg (by unfold BkI at h; omega), rsG_ok, flV_b h, wrap_nat (Nat.lt_of_le_of_lt (flE_le _ _ _) (by decide))]
  · rw [if_neg h, if_pos (by unfold BkI at h; omega)]; rfl
theorem rd32 {na v2 : Int} (ha : nbI a = na) (hv : IntKind.u64.wrap (if BkI na then clV (flV S na) else 2) = v2) : rsG (blC na) v2 0 = (stR (abE S) 32 a b c).1 := by
  show _ = clsE (abE S) (nbI a)
  unfold clsE blC
  rw [ha, ← hv]
  by_cases h : BkI na
  · rw [if_pos h, if_pos h, if_neg (by unfold BkI at h; omega), rsG_ok, flV_b h]
    generalize flE (abE S).T na.toNat 32 = n
    have : clV (n : Int) = clM n := by
      unfold clV clM
      by_cases h1 : n = 32
      · rw [if_pos h1, if_pos (by omega)]
      · rw [if_neg h1, if_neg (by omega)]
        by_cases h2 : n = 0
        · rw [if_pos h2, if_pos (by omega)]
        · rw [if_neg h2, if_neg (by omega)]
    rw [this]
    have : IntKind.u64.wrap (clM n) = clM n := by
      rw [IntKind.wrap_u64]
      unfold clM
      split
      · rfl
      · split <;> rfl
    rw [this]
  · rw [if_neg h, if_neg h, if_pos (by unfold BkI at h; omega)]; rfl
theorem rd50 {na nb cd v2 : Int} {m : Nat} (ha : nbI a = na) (hb : nbI b = nb) (h : cd = lrC na nb ∧ (cd = 0 → m = cnt (fun i => nzP 2 32 S.C (na.toNat * 8 + i)) ((na.toNat + nb.toNat) * 8 - na.toNat * 8))) (hv : IntKind.u64.wrap (m : Int) = v2) : rsG cd v2 0 = (stR (abE S) 50 a b c).1 := by
  show _ = clR (abE S).C (nbI a) (nbI b)
  unfold clR
  rw [ha, hb, ← h.1, ← hv]
  by_cases hc : cd = 0
  · rw [if_pos hc, hc, rsG_ok, h.2 hc]
    have := lrC_ok (a := na) (n := nb) (by rw [← h.1]; exact hc)
    rw [wrap_nat (Nat.lt_of_le_of_lt (cnt_bound _ _) (by omega))]
    unfold clE
    rw [Nat.mul_comm 8, show 8 * nb.toNat = (na.toNat + nb.toNat) * 8 - na.toNat * 8 by omega]
    rfl
  · rw [if_neg hc]; exact rsG_bad hc
theorem hoA_ex (T : Nat → Nat) (k : Nat) : ∀ d r, r + d = 32 → ∃ n, HoA T k r n
  | 0, r, h => ⟨0, by omega, fun j hj => absurd hj (Nat.not_lt_zero _), fun hl => by omega⟩
  | d + 1, r, h => by
    by_cases hz : T (32 * k + r) = 0
    · obtain ⟨n, h1, h2, h3⟩ := hoA_ex T k d (r + 1) (by omega)
      refine ⟨n + 1, by omega, fun j hj => ?_, fun hl => ?_⟩
      · by_cases hj0 : j = 0
        · rw [hj0]; exact hz
        · have := h2 (j - 1) (by omega)
          rw [show 32 * k + (r + 1) + (j - 1) = 32 * k + r + j by omega] at this
          exact this
      · have := h3 (by omega)
        rw [show 32 * k + (r + 1) + n = 32 * k + r + (n + 1) by omega] at this
        exact this
    · exact ⟨0, by omega, fun j hj => absurd hj (Nat.not_lt_zero _), fun _ => hz⟩
theorem hlN_spec (T : Nat → Nat) (k : Nat) {r : Nat} (hr : r ≤ 32) : HoA T k r (hlN T k r) := by
  obtain ⟨n, hn⟩ := hoA_ex T k (32 - r) r (by omega)
  rw [← hlN_of hn]; exact hn
theorem hlN_pos {T : Nat → Nat} {k r : Nat} (hr : r < 32) : 1 ≤ hlN T k r ↔ T (32 * k + r) = 0 := by
  have h := hlN_spec T k (Nat.le_of_lt hr)
  constructor
  · intro h1; exact h.z 0 (by omega)
  · intro h1
    by_cases h2 : hlN T k r = 0
    · have := h.e (by omega)
      rw [h2] at this
      exact absurd h1 this
    · omega
theorem zr_iff {T : Nat → Nat} {i : Nat} : (T i == 0) = true ↔ T i = 0 := by simp
theorem zr_no {T : Nat → Nat} {i : Nat} : (T i == 0) = false ↔ T i ≠ 0 := by simp
theorem run_iff {T : Nat → Nat} {k f r m : Nat} (hf : f ≤ r) (hr : r < 32) : IsRun (fun i => T i == 0) (32 * k + f) (32 * k + 32) (32 * k + r) m ↔ shB T k f r = true ∧ m = hlN T k r := by
  have hs : shB T k f r = true ↔ T (32 * k + r) = 0 ∧ (r = f ∨ T (32 * k + r - 1) ≠ 0) := by
    unfold shB
    simp
  rw [hs]
  constructor
  · rintro ⟨h1, h2, h3, h4, h5, h6⟩
    refine ⟨⟨zr_iff.1 (h4 _ (Nat.le_refl _) (by omega)), ?_⟩, hlN_of ⟨by omega, fun j hj => zr_iff.1 (h4 _ (by omega) (by omega)), fun hl => ?_⟩⟩
    · rcases h5 with h5 | h5
      · exact .inl (by omega)
      · exact .inr (zr_no.1 h5)
    · rcases h6 with h6 | h6
      · omega
      · exact zr_no.1 h6
  · rintro ⟨⟨h1, h2⟩, rfl⟩
    have h := hlN_spec T k (Nat.le_of_lt hr)
    have hp := (hlN_pos hr).2 h1
    have hle := h.le
    refine ⟨hp, by omega, by omega, fun i i1 i2 => zr_iff.2 ?_, ?_, ?_⟩
    · have := h.z (i - (32 * k + r)) (by omega)
      rw [show 32 * k + r + (i - (32 * k + r)) = i by omega] at this
      exact this
    · rcases h2 with h2 | h2
      · exact .inl (by omega)
      · exact .inr (zr_no.2 h2)
    · by_cases hl : r + hlN T k r < 32
      · exact .inr (zr_no.2 (h.e hl))
      · exact .inl (by omega)
theorem run_row {T : Nat → Nat} {k f q m : Nat} (h : IsRun (fun i => T i == 0) (32 * k + f) (32 * k + 32) q m) : ∃ r, q = 32 * k + r ∧ f ≤ r ∧ r < 32 := ⟨q - 32 * k, by have := h.hlo; omega, by have := h.hlo; omega, by have := h.hlo; have := h.hhi; have := h.m1; omega⟩
theorem fhF_step {T : Nat → Nat} {k f nd r : Nat} (hr : r < 32) : fhF T k f nd (32 - r) = if shB T k f r = true ∧ nd ≤ hlN T k r then (r, hlN T k r) else fhF T k f nd (32 - (r + 1)) := by
  obtain ⟨j, hj⟩ : ∃ j, 32 - r = j + 1 := ⟨31 - r, by omega⟩
  rw [hj, show 32 - (r + 1) = j by omega]
  show (if shB T k f (31 - j) = true ∧ nd ≤ hlN T k (31 - j) then (31 - j, hlN T k (31 - j)) else fhF T k f nd j) = _
  rw [show 31 - j = r by omega]
theorem fhF_skip {T : Nat → Nat} {k f nd r0 : Nat} : ∀ d, r0 + d ≤ 32 → (∀ r, r0 ≤ r → r < r0 + d → ¬ (shB T k f r = true ∧ nd ≤ hlN T k r)) → fhF T k f nd (32 - r0) = fhF T k f nd (32 - (r0 + d))
  | 0, _, _ => rfl
  | d + 1, h, hn => by
    rw [fhF_skip d (by omega) (fun r h1 h2 => hn r h1 (by omega)), fhF_step (by omega), if_neg (hn _ (by omega) (by omega))]
    rfl
theorem fit_fh {T : Nat → Nat} {k f nd : Nat} {s l : Int} (hf : f ≤ 32) (h1 : 1 ≤ nd) (h : FitP (fun i => T i == 0) (32 * k + f) (32 * k + 32) nd s l) : (s = -1 ∧ l = 0 ∧ fhF T k f nd (32 - f) = (32, 0)) ∨ ∃ r m : Nat, s = ((32 * k + r : Nat) : Int) ∧ l = (m : Int) ∧ fhF T k f nd (32 - f) = (r, m) ∧ r < 32 := by
  rcases h with ⟨h1, h2, h3⟩ | ⟨q, m, h1, h2, h3, h4, h5⟩
  · refine .inl ⟨h1, h2, ?_⟩
    rw [fhF_skip (32 - f) (by omega) (fun r r1 r2 hh => ?_), show 32 - (f + (32 - f)) = 0 by omega]; rfl
    have := h3 _ _ ((run_iff r1 (by omega)).2 ⟨hh.1, rfl⟩)
    omega
  · obtain ⟨r, rfl, r1, r2⟩ := run_row h3
    obtain ⟨k1, rfl⟩ := (run_iff r1 r2).1 h3
    refine .inr ⟨r, _, h1, h2, ?_, r2⟩
    rw [fhF_skip (r - f) (by omega) (fun r' q1 q2 hh => ?_), show f + (r - f) = r by omega, fhF_step r2, if_pos ⟨k1, h4⟩]
    have := h5 _ _ ((run_iff q1 (by omega)).2 ⟨hh.1, rfl⟩) (by omega)
    omega
theorem zr_fit {P : Nat → Bool} {lo hi : Nat} {s l : Int} (h : Zr P lo hi s l) : FitP P lo hi 1 s l := by
  rcases h with ⟨h1, h2, h3⟩ | ⟨k, m, h1, h2, h3, h4, h5, h6, h7, h8⟩
  · refine .inl ⟨h1, h2, fun k m hr => ?_⟩
    have q1 := hr.hlo
    have q2 := hr.hhi
    have q3 := hr.m1
    have := h3 k q1 (by omega)
    rw [hr.all k (Nat.le_refl _) (by omega)] at this
    cases this
  · refine .inr ⟨k, m, h1, h2, ⟨h3, h4, h5, h7, ?_, ?_⟩, h3, fun k' m' hr hk => ?_⟩
    · by_cases e : k = lo
      · exact .inl e
      · exact .inr (h6 (k - 1) (by omega) (by omega))
    · by_cases e : k + m = hi
      · exact .inl e
      · exact .inr (h8 (by omega))
    · have q1 := hr.hlo
      have q3 := hr.m1
      have := h6 k' q1 hk
      rw [hr.all k' (Nat.le_refl _) (by omega)] at this
      cases this
theorem ho_fh {T : Nat → Nat} {k f nd : Nat} {r n v2 u2 : Int} (hk : k < 64) (hf : f ≤ 32) (h1 : 1 ≤ nd) (h : HoP (FitP (fun i => T i == 0) (32 * k + f) (32 * k + 32) nd) (32 * k) r n) (hv : IntKind.u64.wrap r = v2) (hu : IntKind.u64.wrap n = u2) : v2 = (((fhF T k f nd (32 - f)).1 : Nat) : Int) ∧ u2 = (((fhF T k f nd (32 - f)).2 : Nat) : Int) := by
  obtain ⟨s, l, h2, h3⟩ := h
  rw [← hv, ← hu]
  rcases fit_fh hf h1 h2 with ⟨k1, k2, k3⟩ | ⟨r', m, k1, k2, k3, k4⟩
  · rw [k3]
    rcases h3 with ⟨e1, e2, e3⟩ | ⟨e1, e2, e3⟩
    · rw [e2, e3]; exact ⟨rfl, rfl⟩
    · omega
  · rw [k3]
    have hm : m ≤ 32 := by
      rcases FitP.bounds h2 with ⟨b1, b2⟩ | ⟨q, m', b1, b2, b3, b4, b5⟩
      · omega
      · omega
    rcases h3 with ⟨e1, e2, e3⟩ | ⟨e1, e2, e3⟩
    · omega
    · rw [e2, e3, k1, k2, wrap_nat (by omega)]
      refine ⟨?_, rfl⟩
      rw [show ((32 * k + r' : Nat) : Int) - ((32 * k : Nat) : Int) = (r' : Int) by omega, wrap_nat (by omega)]
theorem rd48 {na nb nc r n cd v2 u2 : Int} (ha : nbI a = na) (hb : nbI b = nb) (hc : nbI c = nc) (h : FhP S na nb nc r n cd) (hv : IntKind.u64.wrap r = v2) (hu : IntKind.u64.wrap n = u2) : rsG cd v2 u2 = (stR (abE S) 48 a b c).1 := by
  show _ = fhR (abE S).T (nbI a) (nbI b) (nbI c)
  unfold fhR
  rw [ha, hb, hc]
  unfold FhP BkI at h
  rcases h with ⟨h1, h2, h3, h4⟩ | ⟨h1, h2, h3, h4, h5⟩ | ⟨h1, h2, h3, h4⟩
  · rw [if_pos (by omega), h4]; rfl
  · rw [if_neg (by omega), if_pos (by omega), h5]; rfl
  · rw [if_neg (by omega), if_neg (by omega), h3, rsG_ok]
    obtain ⟨e1, e2⟩ := ho_fh (T := (abE S).T) (k := na.toNat) (f := nb.toNat) (nd := nc.toNat) (by omega) (by omega) (by omega) h4 hv hu
    rw [e1, e2]
theorem rd33 {na nb r n cd v2 u2 : Int} (ha : nbI a = na) (hb : nbI b = nb) (h : NhP S na nb r n cd) (hv : IntKind.u64.wrap r = v2) (hu : IntKind.u64.wrap n = u2) : rsG cd v2 u2 = (stR (abE S) 33 a b c).1 := by
  show _ = fhR (abE S).T (nbI a) (nbI b) 1
  unfold fhR
  rw [ha, hb]
  unfold NhP BkI at h
  rcases h with ⟨h1, h2, h3, h4⟩ | ⟨h1, h3, h4⟩
  · rw [if_pos (by omega), h4]; rfl
  · rw [if_neg (by omega), if_neg (by omega), h3, rsG_ok]
    obtain ⟨s, l, h5, h6⟩ := h4
    obtain ⟨e1, e2⟩ := ho_fh (T := (abE S).T) (k := na.toNat) (f := nb.toNat) (nd := 1) (by omega) (by omega) (by omega) ⟨s, l, zr_fit h5, h6⟩ hv hu
    rw [e1, e2]; rfl
theorem run_start {T : Nat → Nat} {k : Nat} : ∀ r, r < 32 → T (32 * k + r) = 0 → ∃ r', r' ≤ r ∧ shB T k 0 r' = true ∧ hlN T k r' = hlN T k r + (r - r')
  | 0, h, hz => ⟨0, Nat.le_refl _, by unfold shB; simp; exact hz, by omega⟩
  | r + 1, h, hz => by
    by_cases h1 : T (32 * k + r) = 0
    · obtain ⟨r', q1, q2, q3⟩ := run_start r (by omega) h1
      refine ⟨r', by omega, q2, ?_⟩
      have hs := hlN_spec T k (r := r + 1) (by omega)
      have : HoA T k r (hlN T k (r + 1) + 1) := by
        refine ⟨by have := hs.le; omega, fun j hj => ?_, fun hl => ?_⟩
        · by_cases hj0 : j = 0
          · rw [hj0]; exact h1
          · have := hs.z (j - 1) (by omega)
            rw [show 32 * k + (r + 1) + (j - 1) = 32 * k + r + j by omega] at this
            exact this
        · have := hs.e (by omega)
          rw [show 32 * k + (r + 1) + hlN T k (r + 1) = 32 * k + r + (hlN T k (r + 1) + 1) by omega] at this
          exact this
      rw [q3, ← hlN_of this]
      omega
    · refine ⟨r + 1, Nat.le_refl _, ?_, by omega⟩
      unfold shB
      simp
      exact ⟨hz, h1⟩
theorem long_lh {T : Nat → Nat} {k : Nat} {s l : Int} (h : LongP (fun i => T i == 0) (32 * k) (32 * k + 32) s l) : (s = -1 ∧ l = 0 ∧ lhF T k 32 = (32, 0)) ∨ ∃ r m : Nat, s = ((32 * k + r : Nat) : Int) ∧ l = (m : Int) ∧ lhF T k 32 = (r, m) ∧ r < 32 := by
  rcases h with ⟨h1, h2, h3⟩ | ⟨q, m, h1, h2, h3, h4⟩
  · refine .inl ⟨h1, h2, ?_⟩
    have hz : ∀ r, r < 32 → hlN T k r = 0 := by
      intro r hr
      by_cases e : hlN T k r = 0
      · exact e
      · obtain ⟨r', q1, q2, q3⟩ := run_start (T := T) (k := k) r hr ((hlN_pos (T := T) (k := k) hr).1 (by omega))
        exact absurd ((run_iff (f := 0) (r := r') (Nat.zero_le _) (by omega)).2 ⟨q2, rfl⟩) (h3 _ _)
    have : ∀ n, n ≤ 32 → lhF T k n = (32, 0) := by
      intro n
      induction n with
      | zero => intro _; rfl
      | succ n ih =>
        intro hn
        unfold lhF
        rw [ih (by omega), hz n (by omega)]
        rfl
    exact this 32 (Nat.le_refl _)
  · obtain ⟨r, rfl, r1, r2⟩ := run_row (f := 0) h3
    obtain ⟨k1, rfl⟩ := (run_iff (f := 0) r1 r2).1 h3
    have hle : ∀ r', r' < 32 → hlN T k r' ≤ hlN T k r ∧ (r' < r → hlN T k r' < hlN T k r) := by
      intro r' hr'
      have hp := h3.m1
      by_cases e : hlN T k r' = 0
      · omega
      · obtain ⟨x, q1, q2, q3⟩ := run_start (T := T) (k := k) r' hr' ((hlN_pos (T := T) (k := k) hr').1 (by omega))
        obtain ⟨p1, p2⟩ := h4 _ _ ((run_iff (f := 0) (r := x) (Nat.zero_le _) (by omega)).2 ⟨q2, rfl⟩)
        refine ⟨by omega, fun hl => ?_⟩
        have := p2 (by omega)
        omega
    have hA : ∀ n, n ≤ r → (lhF T k n).2 < hlN T k r := by
      intro n
      induction n with
      | zero => intro _; have := h3.m1; show 0 < _; omega
      | succ n ih =>
        intro hn
        have := ih (by omega)
        unfold lhF
        split
        · exact (hle n (by omega)).2 (by omega)
        · exact this
    have hB : ∀ n, r < n → n ≤ 32 → lhF T k n = (r, hlN T k r) := by
      intro n
      induction n with
      | zero => intro h; omega
      | succ n ih =>
        intro hr hn
        unfold lhF
        by_cases e : n = r
        · rw [e, if_pos (hA r (Nat.le_refl _))]
        · rw [ih (by omega) (by omega), if_neg (by have := (hle n (by omega)).1; show ¬ hlN T k r < hlN T k n; omega)]
    exact .inr ⟨r, _, h1, h2, hB 32 r2 (Nat.le_refl _), r2⟩
theorem rd49 {na r n cd v2 u2 : Int} (ha : nbI a = na) (h : LhP S na r n cd) (hv : IntKind.u64.wrap r = v2) (hu : IntKind.u64.wrap n = u2) : rsG cd v2 u2 = (stR (abE S) 49 a b c).1 := by
  show _ = lhR (abE S).T (nbI a)
  unfold lhR
  rw [ha]
  unfold LhP BkI at h
  rcases h with ⟨h1, h2, h3, h4⟩ | ⟨h1, h3, h4⟩
  · rw [if_pos (by omega), h4]; rfl
  · rw [if_neg (by omega), h3, rsG_ok, ← hv, ← hu]
    obtain ⟨s, l, h5, h6⟩ := h4
    rcases long_lh (T := (abE S).T) h5 with ⟨k1, k2, k3⟩ | ⟨r', m, k1, k2, k3, k4⟩
    · rw [k3]
      rcases h6 with ⟨e1, e2, e3⟩ | ⟨e1, e2, e3⟩
      · rw [e2, e3]; rfl
      · omega
    · rw [k3]
      have hm : m ≤ 32 := by
        rcases LongP.bounds h5 with ⟨b1, b2⟩ | ⟨q, m', b1, b2, b3, b4, b5⟩
        · omega
        · omega
      rcases h6 with ⟨e1, e2, e3⟩ | ⟨e1, e2, e3⟩
      · omega
      · rw [e2, e3, k1, k2, wrap_nat (by omega), show ((32 * na.toNat + r' : Nat) : Int) - ((32 * na.toNat : Nat) : Int) = (r' : Int) by omega, wrap_nat (by omega)]
theorem cnt_full {P : Nat → Bool} : ∀ n, cnt P n = n ↔ ∀ i, i < n → P i = true
  | 0 => ⟨fun _ i hi => absurd hi (Nat.not_lt_zero _), fun _ => rfl⟩
  | n + 1 => by
    have ih := cnt_full (P := P) n
    have hb := cnt_bound P n
    show cnt P n + (P n).toNat = n + 1 ↔ _
    constructor
    · intro h i hi
      cases hP : P n with
      | false => rw [hP] at h; simp at h; omega
      | true =>
        rw [hP] at h
        have h2 : cnt P n = n := by simpa using h
        by_cases e : i = n
        · rw [e]; exact hP
        · exact ih.1 h2 i (by omega)
    · intro h
      rw [ih.2 (fun i hi => h i (by omega)), h n (by omega)]
      rfl
theorem allF_iff {T : Nat → Nat} {k nd : Nat} : AllF (fun i => T i == 0) k nd ↔ izE (usedE T) k nd = true := by
  rw [izE_iff]
  have hu : ∀ j, usedE T j = 0 ↔ ∀ i, i < 32 → T (32 * j + i) = 0 := by
    intro j
    have h1 := flE_le T j 32
    have h2 := cnt_full (P := fun i => decide (T (32 * j + i) = 0)) 32
    have h3 : flE T j 32 = 32 ↔ ∀ i, i < 32 → T (32 * j + i) = 0 := by
      refine Iff.trans h2 ?_
      constructor
      · intro h i hi; exact of_decide_eq_true (h i hi)
      · intro h i hi; exact decide_eq_true (h i hi)
    rw [← h3]
    unfold usedE
    omega
  constructor
  · intro h j j1 j2
    rw [hu]
    intro i hi
    exact zr_iff.1 (h (32 * j + i) (by omega) (by omega))
  · intro h i i1 i2
    have := (hu (i / 32)).1 (h (i / 32) (by omega) (by omega)) (i % 32) (by omega)
    rw [show 32 * (i / 32) + i % 32 = i by omega] at this
    exact zr_iff.2 this
theorem fbF_step {T : Nat → Nat} {nd k : Nat} (hk : k + nd ≤ 64) : fbF T nd (65 - nd - k) = if izE (usedE T) k nd = true then some k else fbF T nd (65 - nd - (k + 1)) := by
  obtain ⟨j, hj⟩ : ∃ j, 65 - nd - k = j + 1 := ⟨64 - nd - k, by omega⟩
  rw [hj, show 65 - nd - (k + 1) = j by omega]
  show (if izE (usedE T) (64 - nd - j) nd = true then some (64 - nd - j) else fbF T nd j) = _
  rw [show 64 - nd - j = k by omega]
theorem fbF_skip {T : Nat → Nat} {nd k0 : Nat} : ∀ d, k0 + d + nd ≤ 65 → (∀ k, k0 ≤ k → k < k0 + d → ¬ izE (usedE T) k nd = true) → fbF T nd (65 - nd - k0) = fbF T nd (65 - nd - (k0 + d))
  | 0, _, _ => rfl
  | d + 1, h, hn => by
    rw [fbF_skip d (by omega) (fun r h1 h2 => hn r h1 (by omega)), fbF_step (by omega), if_neg (hn _ (by omega) (by omega))]
    rfl
theorem rd34 {na nb r cd v2 : Int} {fd : Bool} (ha : nbI a = na) (hb : nbI b = nb) (h : FrP S na nb r fd cd) (hv : IntKind.u64.wrap r = v2) : rsG cd v2 ((bitN fd : Nat) : Int) = (stR (abE S) 34 a b c).1 := by
  show _ = fbR (abE S).T (nbI a) (nbI b)
  unfold fbR
  rw [ha, hb]
  unfold FrP BkI at h
  rcases h with ⟨h1, h2, h3, h4⟩ | ⟨h1, h2, h3, h4, h5⟩ | ⟨h1, h2, h3, h4⟩
  · rw [if_pos (by omega), h4]; rfl
  · rw [if_neg (by omega), if_pos (by omega), h5]; rfl
  · rw [if_neg (by omega), if_neg (by omega), h3, rsG_ok, ← hv]
    rcases h4 with ⟨k1, k2, k3⟩ | ⟨k1, k, k2, k3, k4, k5, k6⟩
    · have : fbF (abE S).T nb.toNat (65 - nb.toNat - na.toNat) = none := by
        by_cases hle : na.toNat + nb.toNat ≤ 65
        · rw [fbF_skip (65 - nb.toNat - na.toNat) (by omega) (fun k q1 q2 hh => ?_), show 65 - nb.toNat - (na.toNat + (65 - nb.toNat - na.toNat)) = 0 by omega]; rfl
          exact k3 k (by omega) (by omega) (allF_iff (T := (abE S).T).2 hh)
        · rw [show 65 - nb.toNat - na.toNat = 0 by omega]; rfl
      rw [this, k1, k2]; rfl
    · have : fbF (abE S).T nb.toNat (65 - nb.toNat - na.toNat) = some k := by
        rw [fbF_skip (k - na.toNat) (by omega) (fun x q1 q2 hh => ?_), show na.toNat + (k - na.toNat) = k by omega, fbF_step (by omega), if_pos (allF_iff (T := (abE S).T).1 k5)]
        exact k6 x (by omega) (by omega) (allF_iff (T := (abE S).T).2 hh)
      rw [this, k1, k2, wrap_nat (by omega)]; rfl
end
end Go.Proofs.Qxb6500887aGreat
