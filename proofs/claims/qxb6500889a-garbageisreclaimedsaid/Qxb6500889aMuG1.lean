/- Garbage: what stands behind four safepoints and enough steps of the collector. -/
import Derived.Test.Qxb6500889aMuR2
namespace Go.Proofs.Qxb6500889a
open Go.RowKit
set_option linter.unusedSimpArgs false
set_option linter.unusedVariables false
/-- Every taken word is some object's. -/
def TkI (H : HS) : Prop := ∀ i, H.taken i = true → ∃ a x, H.objs a = some x ∧ offA a ≤ i ∧ i < offA a + obW x
def cT (p : Nat → Bool) : Nat → Nat
  | 0 => 0
  | k + 1 => cT p k + if p k = true then 1 else 0
def sumF (f : Nat → Nat) : List Nat → Nat
  | [] => 0
  | a :: l => f a + sumF f l
theorem sumF_erase (f : Nat → Nat) {a : Nat} : ∀ {l : List Nat}, a ∈ l → sumF f l = f a + sumF f (l.erase a)
  | b :: l, h => by
    by_cases e : b = a
    · subst e; simp [sumF]
    · have h1 : a ∈ l := by
        rcases List.mem_cons.1 h with h | h
        · exact absurd h.symm e
        · exact h
      rw [List.erase_cons_tail (by simpa using e)]
      show f b + sumF f l = f a + (f b + sumF f (l.erase a))
      rw [sumF_erase f h1]
      omega
theorem sumF_le (f : Nat → Nat) : ∀ {l1 l2 : List Nat}, l1.Nodup → (∀ a ∈ l1, a ∈ l2) → sumF f l1 ≤ sumF f l2
  | [], l2, _, _ => Nat.zero_le _
  | a :: l, l2, hn, hm => by
    rw [List.nodup_cons] at hn
    rw [sumF_erase f (hm a List.mem_cons_self)]
    have := sumF_le f (l2 := l2.erase a) hn.2 (fun b hb => (List.mem_erase_of_ne (fun e => hn.1 (by rw [← e]; exact hb))).2 (hm b (List.mem_cons_of_mem _ hb)))
    show f a + sumF f l ≤ _
    omega
theorem sumF_one : ∀ l : List Nat, sumF (fun _ => 1) l = l.length
  | [] => rfl
  | a :: l => by show 1 + sumF _ l = _; rw [sumF_one l, List.length_cons]; omega
theorem nd_le {l1 l2 : List Nat} (h : l1.Nodup) (hm : ∀ a ∈ l1, a ∈ l2) : l1.length ≤ l2.length := by
  have := sumF_le (fun _ => 1) h hm
  rw [sumF_one, sumF_one] at this
  exact this
theorem sumF_map (f g : Nat → Nat) : ∀ l : List Nat, sumF f (l.map g) = sumF (fun a => f (g a)) l
  | [] => rfl
  | a :: l => by show f (g a) + sumF f (l.map g) = _; rw [sumF_map f g l]; rfl
theorem sumF_congr {f g : Nat → Nat} : ∀ {l : List Nat}, (∀ a ∈ l, f a = g a) → sumF f l = sumF g l
  | [], _ => rfl
  | a :: l, h => by show f a + sumF f l = g a + sumF g l; rw [h a List.mem_cons_self, sumF_congr (fun b hb => h b (List.mem_cons_of_mem _ hb))]
theorem sumF_filter (f : Nat → Nat) {k : Nat} : ∀ {l : List Nat}, l.Nodup → k ∈ l → f k + sumF f (l.filter fun x => decide (x ≠ k)) = sumF f l
  | a :: l, hn, hk => by
    rw [List.nodup_cons] at hn
    by_cases e : a = k
    · subst e
      rw [List.filter_cons, if_neg (by simp)]
      have : l.filter (fun x => decide (x ≠ a)) = l := by
        rw [List.filter_eq_self]
        intro b hb
        exact decide_eq_true (fun e' => hn.1 (by rw [← e']; exact hb))
      rw [this]
      rfl
    · have h1 : k ∈ l := by
        rcases List.mem_cons.1 hk with h | h
        · exact absurd h.symm e
        · exact h
      rw [List.filter_cons, if_pos (by simpa using e)]
      have := sumF_filter f hn.2 h1
      show f k + (f a + sumF f _) = f a + sumF f l
      omega
theorem cT_len (p : Nat → Bool) : ∀ k, ((List.range k).filter p).length = cT p k
  | 0 => rfl
  | k + 1 => by
    rw [List.range_succ, List.filter_append, List.length_append, cT_len p k]
    show _ = cT p k + if p k = true then 1 else 0
    cases h : p k <;> simp [h]
theorem cT_or {p q : Nat → Bool} (h : ∀ i, p i = true → q i = true → False) : ∀ k, cT (fun i => p i || q i) k = cT p k + cT q k
  | 0 => rfl
  | k + 1 => by
    unfold cT
    rw [cT_or h k]
    have := h k
    cases hp : p k <;> cases hq : q k <;> simp_all <;> omega
theorem cT_seg (s n : Nat) : ∀ k, s + n ≤ k → cT (fun i => decide (s ≤ i) && decide (i < s + n)) k = n := by
  have key : ∀ k, cT (fun i => decide (s ≤ i) && decide (i < s + n)) k = min k (s + n) - min k s := by
    intro k
    induction k with
    | zero => simp [cT]
    | succ k ih =>
      unfold cT
      rw [ih]
      by_cases h1 : s ≤ k
      · by_cases h2 : k < s + n
        · rw [if_pos (by simp [h1, h2])]; omega
        · rw [if_neg (by simp [h2])]; omega
      · rw [if_neg (by simp [h1])]; omega
  intro k hk
  rw [key k]
  omega
theorem cT_congr {p q : Nat → Bool} : ∀ k, (∀ i, i < k → p i = q i) → cT p k = cT q k
  | 0, _ => rfl
  | k + 1, h => by unfold cT; rw [cT_congr k (fun i hi => h i (by omega)), h k (by omega)]
theorem cT_zero {p : Nat → Bool} : ∀ k, cT p k = 0 → ∀ i, i < k → p i = false
  | k + 1, h, i, hi => by
    unfold cT at h
    by_cases e : i = k
    · subst e
      cases hp : p i with
      | false => rfl
      | true => rw [if_pos hp] at h; omega
    · exact cT_zero k (by omega) i (by omega)
theorem cT_off {p : Nat → Bool} {a : Nat} (ha : p a = true) : ∀ k, a < k → cT (fup p a false) k + 1 = cT p k
  | k + 1, h => by
    unfold cT
    by_cases e : a = k
    · subst e
      rw [fup_self, if_pos ha, if_neg (by simp), cT_congr a (fun i hi => fup_ne _ _ (by omega))]
    · rw [fup_ne _ _ (by omega)]
      have := cT_off ha k (by omega)
      omega
theorem cT_none {p : Nat → Bool} (h : ∀ a, p a = false) : ∀ k, cT p k = 0
  | 0 => rfl
  | k + 1 => by unfold cT; rw [cT_none h k, h k]; rfl
section
variable {H H' : HS} {X X' : XS} {M : MS} {o : OpP} {z : Rz} {n : Nat} {φ : Nat → Nat}
theorem TkI.zero : TkI H0 := fun i hi => (by cases hi)
theorem TkI.freed (h : TkI H) (D : Nat → Bool) : TkI (Go.Proofs.Qxb6500889a.freed H D) := fun i hi => by
  unfold Go.Proofs.Qxb6500889a.freed at hi
  dsimp only at hi
  split at hi
  · cases hi
  · rename_i hn
    obtain ⟨a, x, h1, h2, h3⟩ := h i hi
    refine ⟨a, x, ?_, h2, h3⟩
    show (if D a = true then none else H.objs a) = some x
    rw [if_neg (fun hd => hn ⟨a, x, hd, h1, h2, h3⟩)]
    exact h1
theorem TkI.base (h : TkI H) (words : Nat) : TkI (baseH H words) := by
  unfold baseH
  split
  · exact h
  · exact h.freed _
theorem TkI.mk (h : TkI H) (hw : Wf H) {m size refs s : Nat} (hr : refs ≤ size) (hp : placeP H.taken (1 + size) = some s) : TkI (mkH H m size refs s) := fun i hi => by
  have hi' : fillT H.taken s (1 + size) true i = true := hi
  unfold fillT at hi'
  by_cases e : s ≤ i ∧ i < s + (1 + size)
  · refine ⟨65536 + s, newOb size refs, ?_, ?_, ?_⟩
    · show fup H.objs (65536 + s) _ (65536 + s) = _
      rw [fup_self]
    · rw [offA_add]; exact e.1
    · rw [offA_add, newOb_w size refs hr]; exact e.2
  · rw [if_neg e] at hi'
    obtain ⟨a, x, h1, h2, h3⟩ := h i hi'
    refine ⟨a, x, ?_, h2, h3⟩
    show fup H.objs (65536 + s) _ a = _
    rw [fup_ne _ _ (fun e' => by rw [e', hw.gap (by omega) hp] at h1; cases h1)]
    exact h1
theorem TkI.free (h : TkI H) {a : Nat} {x : Ob} (hx : H.objs a = some x) : TkI (freeH H a x) := by
  rw [freeH_freed hx]
  exact h.freed _
theorem TkI.obs (h : TkI H) (ht : H'.taken = H.taken) (ho : ∀ a x, H.objs a = some x → ∃ y, H'.objs a = some y ∧ obW y = obW x) : TkI H' := fun i hi => by
  rw [ht] at hi
  obtain ⟨a, x, h1, h2, h3⟩ := h i hi
  obtain ⟨y, k1, k2⟩ := ho a x h1
  exact ⟨a, y, k1, h2, by rw [k2]; exact h3⟩
theorem TkI.setR (h : TkI H) (a j v : Nat) : TkI (Go.Proofs.Qxb6500889a.setR H a j v) := by
  unfold Go.Proofs.Qxb6500889a.setR
  split
  · exact h
  · rename_i x hx
    refine h.obs rfl (fun b y hy => ?_)
    by_cases e : b = a
    · subst e
      rw [hx] at hy
      cases hy
      exact ⟨_, fup_self _ _ _, by simp [obW]⟩
    · exact ⟨y, by show fup H.objs a _ b = _; rw [fup_ne _ _ e]; exact hy, rfl⟩
theorem TkI.setD (h : TkI H) (a j v : Nat) : TkI (Go.Proofs.Qxb6500889a.setD H a j v) := by
  unfold Go.Proofs.Qxb6500889a.setD
  split
  · exact h
  · rename_i x hx
    refine h.obs rfl (fun b y hy => ?_)
    by_cases e : b = a
    · subst e
      rw [hx] at hy
      cases hy
      exact ⟨_, fup_self _ _ _, by simp [obW]⟩
    · exact ⟨y, by show fup H.objs a _ b = _; rw [fup_ne _ _ e]; exact hy, rfl⟩
theorem safe_objs (m : Nat) : (safeH H m).objs = H.objs ∧ (safeH H m).taken = H.taken ∧ (safeH H m).roots = H.roots := by
  unfold safeH
  split <;> exact ⟨rfl, rfl, rfl⟩
theorem TkI.step (h : TkI H) (hi : HI H X) (hs : DoS H X o H' X' z) : TkI H' := by
  cases hs with
  | coll H' h1 h2 h3 =>
    cases h3 with
    | idle _ => exact h
    | none _ _ => exact h
    | free a x _ _ hx _ => exact h.free hx
  | al h1 h2 =>
    unfold alO
    by_cases c1 : numX o.a < 1 ∨ 8192 < numX o.a
    · rw [if_pos c1]; exact h
    rw [if_neg c1]
    by_cases c2 : numX o.b < 0 ∨ numX o.a < numX o.b
    · rw [if_pos c2]; exact h
    rw [if_neg c2]
    by_cases c3 : fullB (X.tb o.ac) = true
    · rw [if_pos c3]; exact h
    rw [if_neg c3]
    cases hp : placeP (baseH H (1 + (numX o.a).toNat)).taken (1 + (numX o.a).toNat) with
    | none => exact h.base _
    | some s => exact (h.base _).mk (hi.wf.base _) (by omega) hp
  | wf h1 h2 =>
    unfold wrF
    repeat' split
    all_goals first | exact h | exact h.setR _ _ _
  | wd h1 h2 =>
    unfold wrD
    repeat' split
    all_goals first | exact h | exact h.setD _ _ _
  | pu h1 h2 =>
    unfold psR
    repeat' split
    all_goals exact h
  | po h1 h2 =>
    unfold ppR
    repeat' split
    all_goals exact h
  | sf h1 h2 => exact h.obs (safe_objs _).2.1 (fun a x hx => ⟨x, by rw [(safe_objs _).1]; exact hx, rfl⟩)
  | _ => exact h
/-- Behind the safepoints of the first j mutators. -/
structure Sfd (j : Nat) (H : HS) (X : XS) : Prop where
  run : ∀ m, m < j → H.run m = false
  ad : ∀ m, m < j → (X.tb m).ad = []
theorem Sfd.zero : Sfd 0 H X := ⟨fun m hm => by omega, fun m hm => by omega⟩
theorem safe_run (m : Nat) : (safeH H m).run = fup H.run m false := by
  unfold safeH
  split <;> rfl
/-- All that stands is condemned or named. -/
structure Cl (H : HS) (X : XS) : Prop where
  al : ∀ a x, H.objs a = some x → H.cond a = true ∨ Nm H X a
  ad : ∀ m, m < 4 → (X.tb m).ad = []
theorem nm_doX {a : Nat} (h : Nm H X a) : Nm H (doX X z) a := by
  induction h with
  | root m a h1 h2 h3 => exact .root m a h1 h2 h3
  | hand m a h1 h2 h3 => exact .hand m a h1 h2 h3
  | ref b a x _ h1 h2 h3 ih => exact .ref b a x ih h1 h2 h3
theorem Sfd.step {j : Nat} (h : Sfd j H X) (hj : j < 4) (hs : DoS H X ⟨j, 7, 0, 0, 0⟩ H' X' z) : Sfd (j + 1) H' (doX X' z) ∧ (j = 3 → Cl H' (doX X' z)) := by
  have he : H' = safeH H j ∧ X' = spX X j := by
    cases hs with
    | sf h1 h2 => exact ⟨rfl, rfl⟩
    | bad h1 => exact absurd (show 7 ≤ j from h1) (by omega)
    | coll _ h1 _ _ => exact absurd (show 4 ≤ j from h1) (by omega)
    | al _ h2 => cases h2
    | rf _ h2 => cases h2
    | wf _ h2 => cases h2
    | rd _ h2 => cases h2
    | wd _ h2 => cases h2
    | pu _ h2 => cases h2
    | po _ h2 => cases h2
    | st _ h2 => cases h2
    | kb _ h2 => exact absurd (show 9 ≤ 7 from h2) (by omega)
  obtain ⟨rfl, rfl⟩ := he
  have hS : Sfd (j + 1) (safeH H j) (doX (spX X j) z) := by
    refine ⟨fun m hm => ?_, fun m hm => ?_⟩
    · rw [safe_run]
      by_cases e : m = j
      · rw [e, fup_self]
      · rw [fup_ne _ _ e]; exact h.run m (by omega)
    · show ((spX X j).tb m).ad = []
      rw [spX_tb]
      by_cases e : m = j
      · rw [if_pos e]; rfl
      · rw [if_neg e]; exact h.ad m (by omega)
  refine ⟨hS, fun h3 => ⟨fun a x hx => ?_, fun m hm => hS.ad m (by omega)⟩⟩
  subst h3
  have hr : anyRun (offRun H 3) = false := by
    have h0 := hS.run 0 (by omega)
    have h1 := hS.run 1 (by omega)
    have h2 := hS.run 2 (by omega)
    have h3 := hS.run 3 (by omega)
    rw [safe_run] at h0 h1 h2 h3
    unfold anyRun offRun
    simp only [h0, h1, h2, h3, Bool.or_self]
  have hsf : safeH H 3 = { offRun H 3 with cond := condD (offRun H 3) (fun a => (H.objs a).isSome) } := by
    unfold safeH
    rw [hr]
    rfl
  rw [(safe_objs 3).1] at hx
  by_cases hR : Rr (offRun H 3) a
  · refine .inr ?_
    have hN : Nm (offRun H 3) (doX (spX X 3) z) a := hR.nm
    have hN2 : ∀ b, Nm (offRun H 3) (doX (spX X 3) z) b → Nm (safeH H 3) (doX (spX X 3) z) b := by
      refine Nm.into (P := Nm (safeH H 3) (doX (spX X 3) z)) (fun m a h1 h2 h3 => .root m a h1 (by rw [(safe_objs 3).2.2]; exact h2) h3) (fun m a h1 h2 h3 => .hand m a h1 h2 h3) (fun b x h1 h2 a h3 h4 => .ref b a x h1 (by rw [(safe_objs 3).1]; exact h2) h3 h4)
    exact hN2 a hN
  · refine .inl ?_
    rw [hsf]
    show condD (offRun H 3) (fun a => (H.objs a).isSome) a = true
    unfold condD
    dsimp only
    rw [hx]
    simp [hR]
theorem Cl.step (h : Cl H X) (hi : HI H X) {ac : Nat} (hac : ac = 4 ∨ ac = 6) (hs : DoS H X ⟨ac, 0, 0, 0, 0⟩ H' X' z) : Cl H' (doX X' z) ∧ cT H'.cond 98304 ≤ cT H.cond 98304 - 1 := by
  have he : StepR H ac H' ∧ X' = X := by
    cases hs with
    | coll _ h1 h2 h3 => exact ⟨h3, rfl⟩
    | bad h1 => exact absurd (show 7 ≤ ac from h1) (by omega)
    | al h1 _ => exact absurd (show ac < 4 from h1) (by omega)
    | rf h1 _ => exact absurd (show ac < 4 from h1) (by omega)
    | wf h1 _ => exact absurd (show ac < 4 from h1) (by omega)
    | rd h1 _ => exact absurd (show ac < 4 from h1) (by omega)
    | wd h1 _ => exact absurd (show ac < 4 from h1) (by omega)
    | pu h1 _ => exact absurd (show ac < 4 from h1) (by omega)
    | po h1 _ => exact absurd (show ac < 4 from h1) (by omega)
    | sf h1 _ => exact absurd (show ac < 4 from h1) (by omega)
    | st h1 _ => exact absurd (show ac < 4 from h1) (by omega)
    | kb h1 _ => exact absurd (show ac < 4 from h1) (by omega)
  obtain ⟨h3, rfl⟩ := he
  cases h3 with
  | idle e => omega
  | none _ hn => exact ⟨⟨fun a x hx => (h.al a x hx).imp id nm_doX, h.ad⟩, by rw [cT_none hn]; omega⟩
  | free a x _ hc hx _ =>
    have hlt := (hi.wf.lt hx).2
    have hcn : cT (fup H.cond a false) 98304 + 1 = cT H.cond 98304 := cT_off hc 98304 hlt
    refine ⟨⟨fun b y hy => ?_, h.ad⟩, by show cT (fup H.cond a false) 98304 ≤ _; omega⟩
    have hna : ∀ b, Nm H X' b → b ≠ a := fun b hb e => by
      have := (hi.nm b hb).2
      rw [e, hc] at this
      cases this
    have hN : ∀ b, Nm H X' b → Nm (freeH H a x) (doX X' z) b := by
      intro b hb
      induction hb with
      | root m c h1 h2 h3 => exact .root m c h1 h2 h3
      | hand m c h1 h2 h3 => exact .hand m c h1 h2 h3
      | ref b c y hb' h1 h2 h3 ih => exact .ref b c y ih (by show fup H.objs a none b = some y; rw [fup_ne _ _ (hna b hb')]; exact h1) h2 h3
    have hy' : fup H.objs a none b = some y := hy
    by_cases e : b = a
    · rw [e, fup_self] at hy'; cases hy'
    · rw [fup_ne _ _ e] at hy'
      rcases h.al b y hy' with h1 | h1
      · exact .inl (by show fup H.cond a false b = true; rw [fup_ne _ _ e]; exact h1)
      · exact .inr (hN b h1)
theorem Cl.all (h : Cl H X) (hi : HI H X) (h0 : cT H.cond 98304 = 0) (a : Nat) : (H.objs a).isSome = true ↔ Nm H X a := by
  refine ⟨fun hs => ?_, fun hn => ?_⟩
  · obtain ⟨x, hx⟩ := Option.isSome_iff_exists.1 hs
    rcases h.al a x hx with h1 | h1
    · have := cT_zero 98304 h0 a (hi.wf.lt hx).2
      rw [this] at h1; cases h1
    · exact h1
  · obtain ⟨⟨x, hx⟩, _⟩ := hi.nm a hn
    rw [hx]; rfl
/-- The words that objects A take. -/
def obN2 (H : HS) (a : Nat) : Nat := match H.objs a with
  | some x => obW x
  | none => 0
theorem words_of (hw : Wf H) : ∀ A : List Nat, A.Nodup → (∀ a ∈ A, (H.objs a).isSome = true) → ∃ p : Nat → Bool, (∀ i, p i = true ↔ ∃ a ∈ A, offA a ≤ i ∧ i < offA a + obN2 H a) ∧ cT p 32768 = sumF (obN2 H) A
  | [], _, _ => ⟨fun _ => false, fun i => ⟨fun h => (by cases h), fun ⟨a, h, _⟩ => (by cases h)⟩, cT_none (fun _ => rfl) _⟩
  | a :: A, hn, hs => by
    rw [List.nodup_cons] at hn
    obtain ⟨p, h1, h2⟩ := words_of hw A hn.2 (fun b hb => hs b (List.mem_cons_of_mem _ hb))
    obtain ⟨x, hx⟩ := Option.isSome_iff_exists.1 (hs a List.mem_cons_self)
    have hoa : obN2 H a = obW x := by unfold obN2; rw [hx]
    obtain ⟨s, hsa, hsf⟩ := hw.rng a x hx
    have hos : offA a = s := offA_eq hsa.symm
    refine ⟨fun i => (decide (s ≤ i) && decide (i < s + obW x)) || p i, fun i => ?_, ?_⟩
    · simp only [Bool.or_eq_true, Bool.and_eq_true, decide_eq_true_eq]
      rw [h1]
      refine ⟨fun h => ?_, fun h => ?_⟩
      · rcases h with h | ⟨b, hb, h⟩
        · exact ⟨a, List.mem_cons_self, by rw [hos, hoa]; exact h⟩
        · exact ⟨b, List.mem_cons_of_mem _ hb, h⟩
      · obtain ⟨b, hb, h⟩ := h
        rcases List.mem_cons.1 hb with rfl | hb
        · left; rw [hos, hoa] at h; exact h
        · right; exact ⟨b, hb, h⟩
    · rw [cT_or (fun i hp hq => ?_), cT_seg s (obW x) 32768 hsf, h2]
      · show obW x + _ = obN2 H a + _
        rw [hoa]
      · simp only [Bool.and_eq_true, decide_eq_true_eq] at hp
        obtain ⟨b, hb, h3, h4⟩ := (h1 i).1 hq
        obtain ⟨y, hy⟩ := Option.isSome_iff_exists.1 (hs b (List.mem_cons_of_mem _ hb))
        have hob : obN2 H b = obW y := by unfold obN2; rw [hy]
        rw [hob] at h4
        have := hw.dj a b x y hx hy (fun e => hn.1 (by rw [e]; exact hb))
        rw [hos] at this
        omega
theorem taken_sum (hw : Wf H) (ht : TkI H) {A : List Nat} (hn : A.Nodup) (hA : ∀ a, (H.objs a).isSome = true ↔ a ∈ A) : cT H.taken 32768 = sumF (obN2 H) A := by
  obtain ⟨p, h1, h2⟩ := words_of hw A hn (fun a ha => (hA a).2 ha)
  rw [← h2]
  refine cT_congr 32768 (fun i hi => ?_)
  rw [Bool.eq_iff_iff, h1]
  refine ⟨fun h => ?_, fun ⟨a, ha, h3, h4⟩ => ?_⟩
  · obtain ⟨a, x, k1, k2, k3⟩ := ht i h
    exact ⟨a, (hA a).1 (by rw [k1]; rfl), k2, by unfold obN2; rw [k1]; exact k3⟩
  · obtain ⟨x, hx⟩ := Option.isSome_iff_exists.1 ((hA a).2 ha)
    unfold obN2 at h4
    rw [hx] at h4
    exact hw.tk a x hx i h3 h4
end
end Go.Proofs.Qxb6500889a
