/- Plain: one step of the machine; what can be named; the invariant. -/
import Derived.Test.Qxb6500889aDoorMuD1
namespace Go.Proofs.Qxb6500889aDoor
open Go.RowKit
set_option linter.unusedSimpArgs false
set_option linter.unusedVariables false

structure OpP where
  ac : Nat
  k : Nat
  a : Nat
  b : Nat
  c : Nat
structure OpB (o : OpP) : Prop where
  ac : o.ac < 256
  k : o.k < 256
  a : o.a < 18446744073709551616
  b : o.b < 18446744073709551616
  c : o.c < 18446744073709551616
/-- What a step does: the states behind it, the answer. -/
inductive DoS (H : HS) (X : XS) (o : OpP) : HS → XS → Rz → Prop
  | bad : 7 ≤ o.ac → DoS H X o H X (rzR 1)
  | coll (H' : HS) : 4 ≤ o.ac → o.ac < 7 → StepR H o.ac H' → DoS H X o H' X (rzR 0)
  | al : o.ac < 4 → o.k = 0 → DoS H X o (alO H X o.ac (numX o.a) (numX o.b)).1 (alO H X o.ac (numX o.a) (numX o.b)).2.1 (rzA (alO H X o.ac (numX o.a) (numX o.b)).2.2.1 (alO H X o.ac (numX o.a) (numX o.b)).2.2.2)
  | rf : o.ac < 4 → o.k = 1 → DoS H X o H (rdF H X o.ac (opX X o.a) (numX o.b)).1 (rzA (rdF H X o.ac (opX X o.a) (numX o.b)).2.1 (rdF H X o.ac (opX X o.a) (numX o.b)).2.2)
  | wf : o.ac < 4 → o.k = 2 → DoS H X o (wrF H X o.ac (opX X o.a) (numX o.b) (opX X o.c)).1 X (rzR (wrF H X o.ac (opX X o.a) (numX o.b) (opX X o.c)).2)
  | rd : o.ac < 4 → o.k = 3 → DoS H X o H X (rzA (rdD H X o.ac (opX X o.a) (numX o.b)).1 (rdD H X o.ac (opX X o.a) (numX o.b)).2)
  | wd : o.ac < 4 → o.k = 4 → DoS H X o (wrD H X o.ac (opX X o.a) (numX o.b) o.c).1 X (rzR (wrD H X o.ac (opX X o.a) (numX o.b) o.c).2)
  | pu : o.ac < 4 → o.k = 5 → DoS H X o (psR H X o.ac (opX X o.a)).1 X (rzR (psR H X o.ac (opX X o.a)).2)
  | po : o.ac < 4 → o.k = 6 → DoS H X o (ppR H X o.ac).1 (ppR H X o.ac).2.1 (rzA (ppR H X o.ac).2.2.1 (ppR H X o.ac).2.2.2)
  | sf : o.ac < 4 → o.k = 7 → DoS H X o (safeH H o.ac) (spX X o.ac) (rzR 0)
  | st : o.ac < 4 → o.k = 8 → DoS H X o H X (stX H X 4)
  | kb : o.ac < 4 → 9 ≤ o.k → DoS H X o H X (rzR 2)
/-- The counts behind a step. -/
def doX (X : XS) (z : Rz) : XS := { X with st := X.st + 1, rf := if z.c = 0 then X.rf else X.rf + 1 }
set_option maxHeartbeats 2000000 in
theorem DoS.det {H : HS} {X : XS} {o : OpP} {H1 H2 : HS} {X1 X2 : XS} {z1 z2 : Rz} (h1 : DoS H X o H1 X1 z1) (h2 : DoS H X o H2 X2 z2) : H1 = H2 ∧ X1 = X2 ∧ z1 = z2 := by
  cases h1 <;> cases h2 <;> first | (exfalso; omega) | exact ⟨StepR.det (by assumption) (by assumption), rfl, rfl⟩ | exact ⟨rfl, rfl, rfl⟩
/-- What the mutators can name. -/
inductive Nm (H : HS) (X : XS) : Nat → Prop
  | root (m a : Nat) : m < 4 → a ∈ H.roots m → a ≠ 0 → Nm H X a
  | hand (m a : Nat) : m < 4 → a ∈ (X.tb m).ad → a ≠ 0 → Nm H X a
  | ref (b a : Nat) (x : Ob) : Nm H X b → H.objs b = some x → a ∈ x.refs → a ≠ 0 → Nm H X a
theorem Nm.into {H : HS} {X : XS} {P : Nat → Prop} (hr : ∀ m a, m < 4 → a ∈ H.roots m → a ≠ 0 → P a) (hh : ∀ m a, m < 4 → a ∈ (X.tb m).ad → a ≠ 0 → P a) (hf : ∀ b x, P b → H.objs b = some x → ∀ a, a ∈ x.refs → a ≠ 0 → P a) : ∀ a, Nm H X a → P a := by
  intro a ha
  induction ha with
  | root m a h1 h2 h3 => exact hr m a h1 h2 h3
  | hand m a h1 h2 h3 => exact hh m a h1 h2 h3
  | ref b a x _ h1 h2 h3 ih => exact hf b x ih h1 a h2 h3
theorem Nm.nz {H : HS} {X : XS} {a : Nat} (h : Nm H X a) : a ≠ 0 := by cases h <;> assumption
theorem Rr.nm {H : HS} {X : XS} {a : Nat} (h : Rr H a) : Nm H X a := by
  induction h with
  | root m a h1 h2 h3 => exact .root m a h1 h2 h3
  | ref b a x _ h1 h2 h3 ih => exact .ref b a x ih h1 h2 h3
/-- The invariant of heap and tables. -/
structure HI (H : HS) (X : XS) : Prop where
  wf : Wf H
  nm : ∀ a, Nm H X a → (∃ x, H.objs a = some x) ∧ H.cond a = false
  rl : ∀ m, m < 4 → (H.roots m).length ≤ 64
  rn : ∀ m, m < 4 → (X.tb m).ad ≠ [] → H.run m = true
  nz : ∀ m, m < 4 → 0 ∉ (X.tb m).ad
  rz : ∀ m, m < 4 → 0 ∉ H.roots m
/-- The bounds of its numbers behind n steps. -/
structure XN (X : XS) (n : Nat) : Prop where
  nx : X.nx < 255
  ct : X.ct ≤ 255
  gen : ∀ m, (X.tb m).gen ≤ n
  len : ∀ m, (X.tb m).ad.length ≤ 128
  st : X.st ≤ n
  rf : X.rf ≤ n
  al : X.al ≤ n
  sf : X.sf ≤ n
  ring : ∀ i, i < 255 → X.ring i < 18446744073709551616
section
variable {H H' : HS} {X X' : XS} {n m : Nat}
theorem XN.xb (h : XN X n) (hn : n ≤ 100000000000) : XB X := ⟨h.nx, h.ct, fun m => by have := h.gen m; omega, h.len, by have := h.st; omega, by have := h.rf; omega, by have := h.al; omega, by have := h.sf; omega⟩
theorem XN.mono {k : Nat} (h : XN X n) (hn : n ≤ k) : XN X k := ⟨h.nx, h.ct, fun m => by have := h.gen m; omega, h.len, by have := h.st; omega, by have := h.rf; omega, by have := h.al; omega, by have := h.sf; omega, h.ring⟩
theorem XN.op (h : XN X n) {v : Nat} (hv : v < 18446744073709551616) : opX X v < 18446744073709551616 := by
  unfold opX
  split
  · exact h.ring _ (Nat.mod_lt _ (by omega))
  · exact hv
theorem HI.live (h : HI H X) : Live H X := fun m hm a ha => (h.nm a (.hand m a hm ha (fun e => h.nz m hm (by rw [← e]; exact ha)))).1
theorem HI.closed (h : HI H X) (m : Nat) : ∀ a, Rr (offRun H m) a → ∃ x, H.objs a = some x := by
  intro a ha
  have : Rr H a := by
    induction ha with
    | root m a h1 h2 h3 => exact .root m a h1 h2 h3
    | ref b a x _ h1 h2 h3 ih => exact .ref b a x ih h1 h2 h3
  exact (h.nm a this.nm).1
theorem rr_off {a : Nat} : Rr (offRun H m) a ↔ Rr H a := by
  constructor
  · intro ha
    induction ha with
    | root m a h1 h2 h3 => exact .root m a h1 h2 h3
    | ref b a x _ h1 h2 h3 ih => exact .ref b a x ih h1 h2 h3
  · intro ha
    induction ha with
    | root m a h1 h2 h3 => exact .root m a h1 h2 h3
    | ref b a x _ h1 h2 h3 ih => exact .ref b a x ih h1 h2 h3
/-- Objects of the same extents. -/
theorem Wf.shape (h : Wf H) (ho : ∀ a x', H'.objs a = some x' → ∃ x, H.objs a = some x ∧ obW x' = obW x) (hc : ∀ a, H'.cond a = true → ∃ x, H'.objs a = some x) (ht : H'.taken = H.taken) : Wf H' := by
  refine ⟨fun a x hx => ?_, hc, fun a x hx i h1 h2 => ?_, fun a b x y hx hy hn => ?_⟩
  · obtain ⟨x0, h1, h2⟩ := ho a x hx
    rw [h2]
    exact h.rng a x0 h1
  · obtain ⟨x0, h3, h4⟩ := ho a x hx
    rw [ht]
    exact h.tk a x0 h3 i h1 (by rw [← h4]; exact h2)
  · obtain ⟨x0, h1, h2⟩ := ho a x hx
    obtain ⟨y0, h3, h4⟩ := ho b y hy
    rw [h2, h4]
    exact h.dj a b x0 y0 h1 h3 hn
theorem HI.same (h : HI H X) (ht : X'.tb = X.tb) : HI H X' := by
  refine ⟨h.wf, fun a ha => h.nm a ?_, h.rl, by rw [ht]; exact h.rn, by rw [ht]; exact h.nz, h.rz⟩
  exact Nm.into (P := Nm H X) (fun m a h1 h2 h3 => .root m a h1 h2 h3) (fun m a h1 h2 h3 => .hand m a h1 (by rw [← ht]; exact h2) h3) (fun b x h1 h2 a h3 h4 => .ref b a x h1 h2 h3 h4) a ha
theorem givX_tb (X : XS) (m x i : Nat) : ((givX X m x).tb i) = if i = m then ⟨(X.tb m).gen, (X.tb m).ad ++ [x]⟩ else X.tb i := by
  show fup X.tb m _ i = _
  unfold fup
  rfl
theorem HI.give (h : HI H X) (hm : m < 4) {x : Nat} (hx : Nm H X x) (hr : H.run m = true) : HI H (givX X m x) := by
  refine ⟨h.wf, fun a ha => h.nm a ?_, h.rl, fun i hi he => ?_, fun i hi he => ?_, h.rz⟩
  · refine Nm.into (P := Nm H X) (fun m a h1 h2 h3 => .root m a h1 h2 h3) (fun i a h1 h2 h3 => ?_) (fun b x h1 h2 a h3 h4 => .ref b a x h1 h2 h3 h4) a ha
    rw [givX_tb] at h2
    split at h2
    · rename_i e
      rcases List.mem_append.1 h2 with h4 | h4
      · exact .hand m a hm h4 h3
      · rw [List.mem_singleton.1 h4]; exact hx
    · exact .hand i a h1 h2 h3
  · rw [givX_tb] at he
    split at he
    · rename_i e; rw [e]; exact hr
    · exact h.rn i hi he
  · rw [givX_tb] at he
    split at he
    · rcases List.mem_append.1 he with h4 | h4
      · exact h.nz m hm h4
      · exact hx.nz (List.mem_singleton.1 h4).symm
    · exact h.nz i hi he
/-- One object's fields are others. -/
theorem HI.setOb (h : HI H X) {a : Nat} {x y : Ob} (hx : H.objs a = some x) (hl : y.refs.length = x.refs.length ∧ y.data.length = x.data.length) (hy : ∀ b ∈ y.refs, b ≠ 0 → Nm H X a → Nm H X b) : HI { H with objs := fup H.objs a (some y) } X := by
  have hob : ∀ b z, fup H.objs a (some y) b = some z → ∃ z0, H.objs b = some z0 ∧ obW z = obW z0 := by
    intro b z hz
    by_cases hb : b = a
    · subst hb
      rw [fup_self] at hz
      cases hz
      exact ⟨x, hx, by unfold obW; omega⟩
    · rw [fup_ne _ _ hb] at hz
      exact ⟨z, hz, rfl⟩
  have hsome : ∀ b z, H.objs b = some z → ∃ z', fup H.objs a (some y) b = some z' := by
    intro b z hz
    by_cases hb : b = a
    · subst hb; exact ⟨y, fup_self _ _ _⟩
    · exact ⟨z, by rw [fup_ne _ _ hb]; exact hz⟩
  have hn : ∀ b, Nm { H with objs := fup H.objs a (some y) } X b → Nm H X b := by
    refine Nm.into (P := Nm H X) (fun m a h1 h2 h3 => .root m a h1 h2 h3) (fun m a h1 h2 h3 => .hand m a h1 h2 h3) (fun b z h1 h2 c h3 h4 => ?_)
    have h2' : fup H.objs a (some y) b = some z := h2
    by_cases hb : b = a
    · subst hb
      rw [fup_self] at h2'
      cases h2'
      exact hy c h3 h4 h1
    · rw [fup_ne _ _ hb] at h2'
      exact .ref b c z h1 h2' h3 h4
  refine ⟨h.wf.shape hob (fun b hb => ?_) rfl, fun b hb => ?_, h.rl, h.rn, h.nz, h.rz⟩
  · obtain ⟨z, hz⟩ := h.wf.cd b hb
    exact hsome b z hz
  · obtain ⟨⟨z, hz⟩, h2⟩ := h.nm b (hn b hb)
    exact ⟨hsome b z hz, h2⟩
/-- The condemned of D are freed. -/
theorem HI.freed (h : HI H X) {D : Nat → Bool} (hD : ∀ a, D a = true → H.cond a = true) : HI (Go.Proofs.Qxb6500889aDoor.freed H D) X := by
  have hn : ∀ b, Nm (Go.Proofs.Qxb6500889aDoor.freed H D) X b → Nm H X b := by
    refine Nm.into (P := Nm H X) (fun m a h1 h2 h3 => .root m a h1 h2 h3) (fun m a h1 h2 h3 => .hand m a h1 h2 h3) (fun b z h1 h2 c h3 h4 => ?_)
    have h2' : (if D b = true then none else H.objs b) = some z := h2
    split at h2'
    · cases h2'
    · exact .ref b c z h1 h2' h3 h4
  refine ⟨h.wf.freed hD, fun a ha => ?_, h.rl, h.rn, h.nz, h.rz⟩
  obtain ⟨⟨z, hz⟩, h2⟩ := h.nm a (hn a ha)
  have hd : D a = false := by
    cases hd : D a with
    | false => rfl
    | true => rw [hD a hd] at h2; cases h2
  refine ⟨⟨z, ?_⟩, ?_⟩
  · show (if D a = true then none else H.objs a) = some z
    rw [hd]; simpa using hz
  · show (H.cond a && !D a) = false
    rw [h2]; rfl
theorem freeH_freed {a : Nat} {x : Ob} (hx : H.objs a = some x) : freeH H a x = Go.Proofs.Qxb6500889aDoor.freed H (fup (fun _ => false) a true) := by
  have := freed_step H (fun _ => false) hx rfl
  rw [freed_none] at this
  exact this
theorem HI.step (h : HI H X) {actor : Nat} (hs : StepR H actor H') : HI H' X := by
  cases hs with
  | idle _ => exact h
  | none _ _ => exact h
  | free a x h1 h2 h3 h4 =>
    rw [freeH_freed h3]
    refine h.freed (fun b hb => ?_)
    by_cases e : b = a
    · rw [e]; exact h2
    · rw [fup_ne _ _ e] at hb; cases hb
theorem HI.base (h : HI H X) (words : Nat) : HI (baseH H words) X := by
  unfold baseH
  split
  · exact h
  · exact h.freed (fun _ e => e)
theorem newOb_w (size refs : Nat) (hr : refs ≤ size) : obW (newOb size refs) = 1 + size := by unfold obW newOb; simp; omega
theorem Wf.mk' (h : Wf H) {size refs s : Nat} (hr : refs ≤ size) (hp : placeP H.taken (1 + size) = some s) (m : Nat) : Wf (mkH H m size refs s) := by
  have hfit := placeP_fit hp
  have hfr := placeP_free hp
  have hob : ∀ b z, fup H.objs (65536 + s) (some (newOb size refs)) b = some z → (b = 65536 + s ∧ z = newOb size refs) ∨ (b ≠ 65536 + s ∧ H.objs b = some z) := by
    intro b z hz
    by_cases hb : b = 65536 + s
    · subst hb; rw [fup_self] at hz; cases hz; exact .inl ⟨rfl, rfl⟩
    · rw [fup_ne _ _ hb] at hz; exact .inr ⟨hb, hz⟩
  have apart : ∀ b z, H.objs b = some z → offA b + obW z ≤ s ∨ s + (1 + size) ≤ offA b := by
    intro b z hz
    have h1 := h.tk b z hz
    have h2 := obW_pos z
    by_cases c1 : offA b + obW z ≤ s
    · exact .inl c1
    · by_cases c2 : s + (1 + size) ≤ offA b
      · exact .inr c2
      · exfalso
        by_cases c3 : offA b ≤ s
        · have e1 := h1 s c3 (by omega)
          rw [hfr s (Nat.le_refl _) (by omega)] at e1
          cases e1
        · have e1 := h1 (offA b) (Nat.le_refl _) (by omega)
          rw [hfr (offA b) (by omega) (by omega)] at e1
          cases e1
  refine ⟨fun a x hx => ?_, fun a ha => ?_, fun a x hx i h1 h2 => ?_, fun a b x y hx hy hn => ?_⟩
  · rcases hob a x hx with ⟨rfl, rfl⟩ | ⟨_, h1⟩
    · exact ⟨s, rfl, by rw [newOb_w _ _ hr]; omega⟩
    · exact h.rng a x h1
  · obtain ⟨x, hx⟩ := h.cd a ha
    by_cases hb : a = 65536 + s
    · exact ⟨_, by rw [hb]; exact fup_self _ _ _⟩
    · exact ⟨x, by show fup H.objs (65536 + s) _ a = some x; rw [fup_ne _ _ hb]; exact hx⟩
  · show fillT H.taken s (1 + size) true i = true
    unfold fillT
    split
    · rfl
    · rename_i h3
      rcases hob a x hx with ⟨rfl, rfl⟩ | ⟨_, h4⟩
      · rw [newOb_w _ _ hr, offA_add] at h2
        rw [offA_add] at h1
        exact absurd ⟨h1, by omega⟩ h3
      · exact h.tk a x h4 i h1 h2
  · rcases hob a x hx with ⟨rfl, rfl⟩ | ⟨_, h1⟩ <;> rcases hob b y hy with ⟨rfl, rfl⟩ | ⟨_, h2⟩
    · exact absurd rfl hn
    · rw [newOb_w _ _ hr, offA_add]
      have := apart b y h2
      omega
    · rw [newOb_w _ _ hr, offA_add]
      exact apart a x h1
    · exact h.dj a b x y h1 h2 hn
/-- A new object is laid and handed out. -/
theorem HI.mkOb (h : HI H X) (hm : m < 4) {size refs s : Nat} (hr : refs ≤ size) (hp : placeP H.taken (1 + size) = some s) : HI (mkH H m size refs s) (givX X m (65536 + s)) := by
  have hgap := h.wf.gap (by omega) hp
  have hob : ∀ b z, b ≠ 65536 + s → H.objs b = some z → fup H.objs (65536 + s) (some (newOb size refs)) b = some z := fun b z hb hz => by rw [fup_ne _ _ hb]; exact hz
  have hne : ∀ b, Nm H X b → b ≠ 65536 + s := by
    intro b hb e
    obtain ⟨⟨z, hz⟩, _⟩ := h.nm b hb
    rw [e, hgap] at hz
    cases hz
  have hn : ∀ b, Nm (mkH H m size refs s) (givX X m (65536 + s)) b → b = 65536 + s ∨ Nm H X b := by
    refine Nm.into (P := fun b => b = 65536 + s ∨ Nm H X b) (fun m a h1 h2 h3 => .inr (.root m a h1 h2 h3)) (fun i a h1 h2 h3 => ?_) (fun b z h1 h2 c h3 h4 => ?_)
    · rw [givX_tb] at h2
      split at h2
      · rcases List.mem_append.1 h2 with h4 | h4
        · exact .inr (.hand m a hm h4 h3)
        · exact .inl (List.mem_singleton.1 h4)
      · exact .inr (.hand i a h1 h2 h3)
    · have h2' : fup H.objs (65536 + s) (some (newOb size refs)) b = some z := h2
      by_cases hb : b = 65536 + s
      · rw [hb, fup_self] at h2'
        cases h2'
        have : c ∈ List.replicate refs 0 := h3
        exact absurd (List.eq_of_mem_replicate this) h4
      · rw [fup_ne _ _ hb] at h2'
        rcases h1 with h1 | h1
        · exact absurd h1 hb
        · exact .inr (.ref b c z h1 h2' h3 h4)
  refine ⟨h.wf.mk' hr hp m, fun a ha => ?_, h.rl, fun i hi he => ?_, fun i hi he => ?_, h.rz⟩
  · rcases hn a ha with rfl | h1
    · refine ⟨⟨_, fup_self _ _ _⟩, ?_⟩
      show H.cond (65536 + s) = false
      cases hc : H.cond (65536 + s) with
      | false => rfl
      | true => obtain ⟨x, hx⟩ := h.wf.cd _ hc; rw [hgap] at hx; cases hx
    · obtain ⟨⟨z, hz⟩, h2⟩ := h.nm a h1
      exact ⟨⟨z, hob a z (hne a h1) hz⟩, h2⟩
  · show fup H.run m true i = true
    by_cases e : i = m
    · rw [e, fup_self]
    · rw [fup_ne _ _ e]
      rw [givX_tb, if_neg e] at he
      exact h.rn i hi he
  · rw [givX_tb] at he
    split at he
    · rcases List.mem_append.1 he with h4 | h4
      · exact h.nz m hm h4
      · have := List.mem_singleton.1 h4; omega
    · exact h.nz i hi he
/-- More runners. -/
theorem HI.runs (h : HI H X) (m : Nat) : HI { H with run := fup H.run m true } X := by
  refine ⟨⟨h.wf.rng, h.wf.cd, h.wf.tk, h.wf.dj⟩, fun a ha => h.nm a ?_, h.rl, fun i hi he => ?_, h.nz, h.rz⟩
  · exact Nm.into (H := { H with run := fup H.run m true }) (P := Nm H X) (fun m a h1 h2 h3 => .root m a h1 h2 h3) (fun m a h1 h2 h3 => .hand m a h1 h2 h3) (fun b x h1 h2 a h3 h4 => .ref b a x h1 h2 h3 h4) a ha
  · show fup H.run m true i = true
    by_cases e : i = m
    · rw [e, fup_self]
    · rw [fup_ne _ _ e]; exact h.rn i hi he
/-- A root stack is another. -/
theorem HI.root (h : HI H X) (hm : m < 4) {ys : List Nat} (hy : ∀ a ∈ ys, Nm H X a) (hl : ys.length ≤ 64) : HI { H with roots := fup H.roots m ys } X := by
  have hrt : ∀ i a, a ∈ fup H.roots m ys i → a ∈ ys ∨ a ∈ H.roots i := by
    intro i a ha
    by_cases e : i = m
    · rw [e, fup_self] at ha; exact .inl ha
    · rw [fup_ne _ _ e] at ha; exact .inr ha
  refine ⟨⟨h.wf.rng, h.wf.cd, h.wf.tk, h.wf.dj⟩, fun a ha => h.nm a ?_, fun i hi => ?_, h.rn, h.nz, fun i hi hz => ?_⟩
  · refine Nm.into (H := { H with roots := fup H.roots m ys }) (P := Nm H X) (fun i a h1 h2 h3 => ?_) (fun m a h1 h2 h3 => .hand m a h1 h2 h3) (fun b x h1 h2 a h3 h4 => .ref b a x h1 h2 h3 h4) a ha
    rcases hrt i a h2 with h4 | h4
    · exact hy a h4
    · exact .root i a h1 h4 h3
  · show (fup H.roots m ys i).length ≤ 64
    by_cases e : i = m
    · rw [e, fup_self]; exact hl
    · rw [fup_ne _ _ e]; exact h.rl i hi
  · rcases hrt i 0 hz with h4 | h4
    · exact (hy 0 h4).nz rfl
    · exact h.rz i hi h4
theorem spX_tb (X : XS) (m i : Nat) : ((spX X m).tb i) = if i = m then retT (X.tb m) else X.tb i := by
  show fup X.tb m _ i = _
  unfold fup
  rfl
theorem anyRun_false {H : HS} (h : ¬ anyRun H = true) : ∀ m, m < 4 → H.run m = false := by
  have h' : anyRun H = false := by simpa using h
  unfold anyRun at h'
  simp at h'
  intro m hm
  rcases (by omega : m = 0 ∨ m = 1 ∨ m = 2 ∨ m = 3) with rfl | rfl | rfl | rfl
  · exact h'.1.1.1
  · exact h'.1.1.2
  · exact h'.1.2
  · exact h'.2
theorem HI.safe (h : HI H X) (hm : m < 4) : HI (safeH H m) (spX X m) := by
  have hn : ∀ K : HS, K.roots = H.roots → K.objs = H.objs → ∀ a, Nm K (spX X m) a → Nm H X a := by
    intro K h1 h2
    refine Nm.into (P := Nm H X) (fun m a h3 h4 h5 => .root m a h3 (by rw [← h1]; exact h4) h5) (fun i a h3 h4 h5 => ?_) (fun b x h3 h4 a h5 h6 => .ref b a x h3 (by rw [← h2]; exact h4) h5 h6)
    rw [spX_tb] at h4
    split at h4
    · simp [retT] at h4
    · exact .hand i a h3 h4 h5
  have hnz : ∀ i, i < 4 → 0 ∉ ((spX X m).tb i).ad := by
    intro i hi he
    rw [spX_tb] at he
    split at he
    · simp [retT] at he
    · exact h.nz i hi he
  have hrn : ∀ i, i < 4 → ((spX X m).tb i).ad ≠ [] → fup H.run m false i = true := by
    intro i hi he
    rw [spX_tb] at he
    split at he
    · simp [retT] at he
    · rename_i e
      rw [fup_ne _ _ e]
      exact h.rn i hi he
  unfold safeH
  split
  · exact ⟨⟨h.wf.rng, h.wf.cd, h.wf.tk, h.wf.dj⟩, fun a ha => h.nm a (hn (offRun H m) rfl rfl a ha), h.rl, hrn, hnz, h.rz⟩
  · rename_i hany
    have hoff := anyRun_false hany
    have hrr : ∀ a, Nm { offRun H m with cond := condD (offRun H m) (fun a => (H.objs a).isSome) } (spX X m) a → Rr H a := by
      refine Nm.into (P := Rr H) (fun m a h3 h4 h5 => .root m a h3 h4 h5) (fun i a h3 h4 h5 => ?_) (fun b x h3 h4 a h5 h6 => .ref b a x h3 h4 h5 h6)
      exfalso
      have h6 := hrn i h3 (fun e => by rw [e] at h4; cases h4)
      have h7 : fup H.run m false i = false := hoff i h3
      rw [h6] at h7
      cases h7
    have hn2 := hn { offRun H m with cond := condD (offRun H m) (fun a => (H.objs a).isSome) } rfl rfl
    refine ⟨⟨h.wf.rng, fun a ha => ?_, h.wf.tk, h.wf.dj⟩, fun a ha => ⟨(h.nm a (hn2 a ha)).1, ?_⟩, h.rl, hrn, hnz, h.rz⟩
    · have ha' : condD (offRun H m) (fun a => (H.objs a).isSome) a = true := ha
      unfold condD at ha'
      cases hc : H.cond a with
      | true => exact h.wf.cd a hc
      | false =>
        rw [show (offRun H m).cond a = H.cond a from rfl, hc] at ha'
        simp at ha'
        exact Option.isSome_iff_exists.1 ha'.1
    · show condD (offRun H m) (fun a => (H.objs a).isSome) a = false
      have h1 := (h.nm a (hn2 a ha)).2
      have h2 := rr_off (m := m) |>.2 (hrr a ha)
      unfold condD
      rw [show (offRun H m).cond a = H.cond a from rfl, h1]
      simp [h2]
end
end Go.Proofs.Qxb6500889aDoor
