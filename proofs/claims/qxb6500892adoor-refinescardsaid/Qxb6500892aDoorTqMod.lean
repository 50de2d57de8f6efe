/- The model over three plain lists, and what the engine's step is in it. -/
import Derived.Test.Qxb6500892aDoorTqAbs2
import Derived.Test.Qxb6500892aDoorTqVicP
namespace Go.Proofs.Qxb6500892aDoor
open Go.RowKit
set_option linter.unusedSimpArgs false
set_option linter.unusedVariables false

structure MS where
  sl : Int
  kin : Int
  kout : Nat
  kneg : Int
  I : List TEnt
  M : List TEnt
  O : List Nat
def absM (s : ES) (L : Nat → List Nat) : MS := ⟨s.slots, s.kin, s.kout, s.kneg, Vw s (L 1), Vw s (L 2), Gh s L⟩
def findE (m : MS) (x : Int) : Option TEnt := (m.I ++ m.M).find? fun t => decide (t.slot = x)
def errM (m : MS) (x : Int) : Nat := if 0 ≤ x ∧ x < m.sl then (if (findE m x).isSome then 0 else 1) else 4
def lkM (m : MS) (k : Nat) (x : Int) : Bool := (m.I ++ m.M).any fun t => decide (t.key = (k : Int)) && decide (t.slot ≠ x)
section
variable {s s' : ES} {L L' C C' : Nat → List Nat} {i k : Nat} {B : Bool}
theorem find_live (hE : EI s L C) (hi : i < s.slots) (hw : s.whr i ≠ 0) : findE (absM s L) (i : Int) = some (entOf s i) := by
  have hin : i ∈ L 1 ++ L 2 := by
    have h1 := hE.slot i hi
    have h2 := hE.q.mem i (by have := hE.nn; omega) hw
    rcases (by omega : s.whr i = 1 ∨ s.whr i = 2) with e | e
    · rw [e] at h2; exact List.mem_append_left _ h2
    · rw [e] at h2; exact List.mem_append_right _ h2
  show ((L 1).map (entOf s) ++ (L 2).map (entOf s)).find? _ = _
  rw [← List.map_append, List.find?_map]
  have : (L 1 ++ L 2).find? ((fun t : TEnt => decide (t.slot = (i : Int))) ∘ entOf s) = some i := by
    have hc : ((fun t : TEnt => decide (t.slot = (i : Int))) ∘ entOf s) = fun j => decide (j = i) := by
      funext j
      show decide ((j : Int) = (i : Int)) = _
      exact decide_eq_decide.2 (by omega)
    rw [hc]
    cases hf : (L 1 ++ L 2).find? (fun j => decide (j = i)) with
    | none =>
      rw [List.find?_eq_none] at hf
      have := hf i hin
      simp at this
    | some j =>
      have := List.find?_some hf
      simp at this
      rw [this]
  rw [this]
  rfl
theorem find_dead (hE : EI s L C) {x : Int} (h : liveC s x ≠ 0) : findE (absM s L) x = none := by
  show ((L 1).map (entOf s) ++ (L 2).map (entOf s)).find? _ = _
  rw [← List.map_append, List.find?_eq_none]
  intro t ht
  obtain ⟨j, hj, rfl⟩ := List.mem_map.1 ht
  have hl : j < s.slots ∧ (s.whr j = 1 ∨ s.whr j = 2) := by
    rcases List.mem_append.1 hj with h1 | h1
    · exact hE.live_of (.inl rfl) h1
    · exact hE.live_of (.inr rfl) h1
  intro hc
  have e : (j : Int) = x := of_decide_eq_true hc
  apply h
  rw [← e, liveC_at hl.1, if_neg (by omega)]
theorem err_abs (hE : EI s L C) (x : Int) : errM (absM s L) x = liveC s x := by
  unfold errM
  by_cases hx : 0 ≤ x ∧ x < (s.slots : Int)
  · rw [if_pos (show 0 ≤ x ∧ x < (absM s L).sl from hx)]
    obtain ⟨i, rfl⟩ : ∃ i : Nat, x = (i : Int) := ⟨x.toNat, by omega⟩
    have hi : i < s.slots := by omega
    by_cases hw : s.whr i = 0
    · rw [find_dead hE (by rw [liveC_at hi, if_pos hw]; omega), liveC_at hi, if_pos hw]; rfl
    · rw [find_live hE hi hw, liveC_at hi, if_neg hw]; rfl
  · rw [if_neg (show ¬ (0 ≤ x ∧ x < (absM s L).sl) from hx), liveC_rng hx]
theorem lk_abs (hE : EI s L C) (k : Nat) (x : Int) : lkM (absM s L) k x = true ↔ ∃ j, j < s.slots ∧ (s.whr j = 1 ∨ s.whr j = 2) ∧ s.key j = k ∧ (j : Int) ≠ x := by
  show ((L 1).map (entOf s) ++ (L 2).map (entOf s)).any _ = true ↔ _
  rw [← List.map_append, List.any_eq_true]
  constructor
  · rintro ⟨t, ht, hp⟩
    obtain ⟨j, hj, rfl⟩ := List.mem_map.1 ht
    have hl : j < s.slots ∧ (s.whr j = 1 ∨ s.whr j = 2) := by
      rcases List.mem_append.1 hj with h1 | h1
      · exact hE.live_of (.inl rfl) h1
      · exact hE.live_of (.inr rfl) h1
    rw [Bool.and_eq_true] at hp
    have e1 : (s.key j : Int) = (k : Int) := of_decide_eq_true hp.1
    have e2 : (j : Int) ≠ x := of_decide_eq_true hp.2
    exact ⟨j, hl.1, hl.2, by omega, e2⟩
  · rintro ⟨j, h1, h2, h3, h4⟩
    refine ⟨entOf s j, List.mem_map.2 ⟨j, ?_, rfl⟩, ?_⟩
    · have hm := hE.q.mem j (by have := hE.nn; omega) (by omega)
      rcases h2 with e | e
      · rw [e] at hm; exact List.mem_append_left _ hm
      · rw [e] at hm; exact List.mem_append_right _ hm
    · rw [Bool.and_eq_true]
      exact ⟨decide_eq_true (show (s.key j : Int) = (k : Int) by omega), decide_eq_true (show (j : Int) ≠ x from h4)⟩
def woutI (l : List TEnt) (x : Int) : List TEnt := l.filter fun t => decide (t.slot ≠ x)
def inAm (m : MS) (x : Int) : Bool := m.M.any fun t => decide (t.slot = x)
theorem inAm_abs (hE : EI s L C) (hi : i < s.slots) (hw : s.whr i ≠ 0) : inAm (absM s L) (i : Int) = decide (s.whr i = 2) := by
  show ((L 2).map (entOf s)).any _ = _
  have hm := hE.q.mem i (by have := hE.nn; omega) hw
  by_cases e : s.whr i = 2
  · rw [decide_eq_true e, List.any_eq_true]
    rw [e] at hm
    exact ⟨entOf s i, List.mem_map.2 ⟨i, hm, rfl⟩, decide_eq_true rfl⟩
  · rw [decide_eq_false e, List.any_eq_false]
    intro t ht
    obtain ⟨j, hj, rfl⟩ := List.mem_map.1 ht
    intro hc
    have h1 : (j : Int) = (i : Int) := of_decide_eq_true hc
    have h2 : j = i := by omega
    subst h2
    exact e ((hE.q.dl 2 (by omega)).wh j hj)
def insM (m : MS) (x : Int) (k : Nat) (B : Bool) : Nat × MS :=
  if errM m x = 4 then (4, m) else if errM m x = 0 ∨ lkM m k x = true then (2, m)
  else (0, if k ∈ m.O ∧ B = false then { m with O := noK m.O k, M := ⟨x, k, 0, B⟩ :: m.M } else { m with O := noK m.O k, I := ⟨x, k, 0, B⟩ :: m.I })
theorem InsS.model {x : Int} {c : Nat} (hE : EI s L C) (h : InsS x k B s L c s' L') : insM (absM s L) x k B = (c, absM s' L') := by
  unfold insM
  rw [err_abs hE]
  cases h with
  | taken h => rw [if_neg (by omega), if_pos (.inl h)]
  | bad h => rw [if_pos h]
  | dup h j hj hw hk =>
    rw [if_neg (by omega), if_pos (.inr ((lk_abs hE k x).2 ⟨j, hj, hw, hk, fun e => by rw [← e, liveC_at hj, if_neg (by omega)] at h; omega⟩))]
  | fresh i hx hi hw hn s2 L2 he =>
    have hA := InsS.abs hE (InsS.fresh i hx hi hw hn s' L' he)
    have hl : liveC s x = 1 := by rw [hx, liveC_at hi, if_pos hw]
    have hk : ¬ (liveC s x = 0 ∨ lkM (absM s L) k x = true) := fun hh => by
      rcases hh with h1 | h1
      · omega
      · obtain ⟨j, h2, h3, h4, _⟩ := (lk_abs hE k x).1 h1
        exact hn j ⟨by have := hE.nn; omega, by omega⟩ h4
    rw [if_neg (by omega), if_neg hk]
    obtain ⟨i', hxi, hi', hw', hcf, hG, _, _, _, _, _, hV⟩ := hA
    obtain rfl : i = i' := by omega
    subst hx
    have hm : absM s' L' = ⟨s.slots, s.kin, s.kout, s.kneg, Vw s' (L' 1), Vw s' (L' 2), noK (Gh s L) k⟩ := by unfold absM; rw [hcf.slots, hcf.kin, hcf.kout, hcf.kneg, hG]
    rw [hm]
    rcases hV with ⟨h1, h2, v1, v2⟩ | ⟨h1, v1, v2⟩
    · rw [if_pos (show k ∈ (absM s L).O ∧ B = false from ⟨h1, h2⟩), v1, v2]; rfl
    · rw [if_neg (show ¬ (k ∈ (absM s L).O ∧ B = false) from h1), v1, v2]; rfl
  | back i hx hi hw g hk s1 L1 hd s2 L2 he =>
    have hA := InsS.abs hE (InsS.back i hx hi hw g hk s1 L1 hd s' L' he)
    have hl : liveC s x = 1 := by rw [hx, liveC_at hi, if_pos hw]
    have hk2 : ¬ (liveC s x = 0 ∨ lkM (absM s L) k x = true) := fun hh => by
      rcases hh with h1 | h1
      · omega
      · obtain ⟨j, h2, h3, h4, _⟩ := (lk_abs hE k x).1 h1
        have := hE.uq j g ⟨by have := hE.nn; omega, by omega⟩ ⟨hd.1, .inr (.inr hd.2.1)⟩ (h4.trans hk.symm)
        subst this
        have := hd.2.1
        omega
    rw [if_neg (by omega), if_neg hk2]
    obtain ⟨i', hxi, hi', hw', hcf, hG, _, _, _, _, _, hV⟩ := hA
    obtain rfl : i = i' := by omega
    subst hx
    have hm : absM s' L' = ⟨s.slots, s.kin, s.kout, s.kneg, Vw s' (L' 1), Vw s' (L' 2), noK (Gh s L) k⟩ := by unfold absM; rw [hcf.slots, hcf.kin, hcf.kout, hcf.kneg, hG]
    rw [hm]
    rcases hV with ⟨h1, h2, v1, v2⟩ | ⟨h1, v1, v2⟩
    · rw [if_pos (show k ∈ (absM s L).O ∧ B = false from ⟨h1, h2⟩), v1, v2]; rfl
    · rw [if_neg (show ¬ (k ∈ (absM s L).O ∧ B = false) from h1), v1, v2]; rfl
theorem Cf.absM (hcf : Cf s s') : absM s' L' = ⟨s.slots, s.kin, s.kout, s.kneg, Vw s' (L' 1), Vw s' (L' 2), Gh s' L'⟩ := by
  unfold Go.Proofs.Qxb6500892aDoor.absM
  rw [hcf.slots, hcf.kin, hcf.kout, hcf.kneg]
def touM (m : MS) (x : Int) : Nat × MS := (errM m x, match findE m x with
  | none => m
  | some e => if errM m x = 0 ∧ inAm m x = true then { m with M := e :: woutI m.M x } else m)
theorem TouS.model {x : Int} (hE : EI s L C) (h : (liveC s x ≠ 0 ∧ s' = s ∧ L' = L) ∨ (liveC s x = 0 ∧ TouS x.toNat s L s' L')) : touM (absM s L) x = (liveC s x, absM s' L') := by
  unfold touM
  rw [err_abs hE]
  rcases h with ⟨h1, h2, h3⟩ | ⟨h1, h2⟩
  · rw [find_dead hE h1, h2, h3]
  · obtain ⟨i, rfl, hi, hw⟩ := liveC_0 h1
    rw [Int.toNat_natCast] at h2
    rw [find_live hE hi hw, h1, inAm_abs hE hi hw]
    obtain ⟨a1, a2, a3⟩ := h2.abs hE
    rw [h2.1.cf.absM, a1, a2, a3]
    by_cases e : s.whr i = 2
    · rw [if_pos e]
      simp only [e, decide_true, and_self, if_true]
      rfl
    · rw [if_neg e]
      simp only [e, decide_false, Bool.false_eq_true, and_false, if_false]
      rfl
def idleM (m : MS) (x : Int) : Nat := if errM m x = 0 ∧ 0 < ((findE m x).map (·.pins)).getD 0 then 3 else errM m x
theorem idle_abs (hE : EI s L C) (x : Int) : idleM (absM s L) x = idleC s x := by
  unfold idleM idleC
  rw [err_abs hE]
  by_cases h : liveC s x = 0
  · obtain ⟨i, rfl, hi, hw⟩ := liveC_0 h
    rw [find_live hE hi hw, Int.toNat_natCast]
    rfl
  · rw [if_neg (fun hh => h hh.1), if_neg (fun hh => h hh.1)]
def remM (m : MS) (x : Int) : Nat × MS := (idleM m x, if idleM m x = 0 then { m with I := woutI m.I x, M := woutI m.M x } else m)
theorem RemS.model {x : Int} (hE : EI s L C) (h : (idleC s x ≠ 0 ∧ s' = s ∧ L' = L) ∨ (idleC s x = 0 ∧ LeaS x.toNat s L s' L')) : remM (absM s L) x = (idleC s x, absM s' L') := by
  unfold remM
  rw [idle_abs hE]
  rcases h with ⟨h1, h2, h3⟩ | ⟨h1, h2⟩
  · rw [if_neg h1, h2, h3]
  · obtain ⟨i, rfl, hi, hw, hp⟩ := idleC_0 hE h1
    rw [Int.toNat_natCast] at h2
    obtain ⟨a1, a2⟩ := h2.abs hE hw
    rw [if_pos h1, h2.cf.absM, a1 1 (.inl rfl), a1 2 (.inr rfl), a2]
    rfl
def goneM (m : MS) (x : Int) : List Nat := match findE m x with
  | none => m.O
  | some e => if inAm m x = false ∧ e.neg = false then (e.key.toNat :: m.O).take m.kout else m.O
def pgM (m : MS) (x : Int) : MS := { m with I := woutI m.I x, M := woutI m.M x, O := goneM m x }
theorem gone_abs (hE : EI s L C) (hi : i < s.slots) (hw : s.whr i = 1 ∨ s.whr i = 2) : goneM (absM s L) (i : Int) = gone s L i := by
  unfold goneM gone
  rw [find_live hE hi (by omega), inAm_abs hE hi (by omega)]
  show (if decide (s.whr i = 2) = false ∧ s.neg i = false then ((s.key i : Int).toNat :: Gh s L).take s.kout else Gh s L) = _
  rw [Int.toNat_natCast]
  by_cases e : s.whr i = 1
  · simp [e]
  · simp [e, show s.whr i = 2 by omega]
theorem PgS.model (hE : EI s L C) (hi : i < s.slots) (hw : s.whr i = 1 ∨ s.whr i = 2) (h : PgS i s L s' L') : pgM (absM s L) (i : Int) = absM s' L' := by
  obtain ⟨a1, a2⟩ := h.abs hE hi hw
  rw [h.v.cf.absM, (a1 1 (.inl rfl)).1, (a1 2 (.inr rfl)).1, a2, ← gone_abs hE hi hw]
  rfl
def eviM (m : MS) (x : Int) : Nat × MS := (idleM m x, if idleM m x = 0 then pgM m x else m)
theorem EviS.model {x : Int} (hE : EI s L C) (h : (idleC s x ≠ 0 ∧ s' = s ∧ L' = L) ∨ (idleC s x = 0 ∧ PgS x.toNat s L s' L')) : eviM (absM s L) x = (idleC s x, absM s' L') := by
  unfold eviM
  rw [idle_abs hE]
  rcases h with ⟨h1, h2, h3⟩ | ⟨h1, h2⟩
  · rw [if_neg h1, h2, h3]
  · obtain ⟨i, rfl, hi, hw, hp⟩ := idleC_0 hE h1
    rw [Int.toNat_natCast] at h2
    rw [if_pos h1, PgS.model hE hi hw h2]
def bumpI (x : Int) (d : Int) (t : TEnt) : TEnt := if t.slot = x then { t with pins := t.pins + d } else t
def pinM (m : MS) (x : Int) : Nat × MS := (errM m x, if errM m x = 0 then { m with I := m.I.map (bumpI x 1), M := m.M.map (bumpI x 1) } else m)
def unpM (m : MS) (x : Int) : Nat × MS :=
  if errM m x = 0 then (if ((findE m x).map (·.pins)).getD 0 = 0 then (4, m) else (0, { m with I := m.I.map (bumpI x (-1)), M := m.M.map (bumpI x (-1)) })) else (errM m x, m)
theorem PinS.model {x : Int} (hE : EI s L C) (h : (liveC s x ≠ 0 ∧ s' = s) ∨ (liveC s x = 0 ∧ PinS x.toNat 1 s s')) : pinM (absM s L) x = (liveC s x, absM s' L) := by
  unfold pinM
  rw [err_abs hE]
  rcases h with ⟨h1, h2⟩ | ⟨h1, h2⟩
  · rw [if_neg h1, h2]
  · obtain ⟨i, rfl, hi, hw⟩ := liveC_0 h1
    rw [Int.toNat_natCast] at h2
    obtain ⟨a1, a2⟩ := h2.abs
    rw [if_pos h1, h2.cf.absM, a1, a1, a2]
    rfl
theorem UnpS.model {x : Int} (hE : EI s L C) (h : (unpinC s x ≠ 0 ∧ s' = s) ∨ (unpinC s x = 0 ∧ liveC s x = 0 ∧ PinS x.toNat (-1) s s')) : unpM (absM s L) x = (unpinC s x, absM s' L) := by
  unfold unpM unpinC
  rw [err_abs hE]
  by_cases hl : liveC s x = 0
  · obtain ⟨i, rfl, hi, hw⟩ := liveC_0 hl
    rw [if_pos hl, find_live hE hi hw, Int.toNat_natCast]
    show (if s.pin i = 0 then _ else _) = _
    by_cases hp : s.pin i = 0
    · rw [if_pos hp, if_pos ⟨hl, hp⟩]
      rcases h with ⟨_, h2⟩ | ⟨h1, _⟩
      · rw [h2]
      · unfold unpinC at h1
        rw [Int.toNat_natCast, if_pos ⟨hl, hp⟩] at h1
        omega
    · rw [if_neg hp, if_neg (fun hh => hp hh.2)]
      rcases h with ⟨h1, _⟩ | ⟨_, _, h2⟩
      · unfold unpinC at h1
        rw [Int.toNat_natCast, if_neg (fun hh => hp hh.2)] at h1
        exact absurd hl h1
      · rw [Int.toNat_natCast] at h2
        obtain ⟨a1, a2⟩ := h2.abs
        rw [h2.cf.absM, a1, a1, a2, hl]
        rfl
  · rw [if_neg hl, if_neg (fun hh => hl hh.1)]
    rcases h with ⟨_, h2⟩ | ⟨_, h1, _⟩
    · rw [h2]
    · exact absurd h1 hl
def sngM (m : MS) (x : Int) (B : Bool) : Nat × MS := (errM m x, match findE m x with
  | none => m
  | some e => if e.neg = B then m else { m with I := { e with neg := B } :: woutI m.I x, M := woutI m.M x })
theorem SngS.model {x : Int} (hE : EI s L C) (h : (liveC s x ≠ 0 ∧ s' = s ∧ L' = L) ∨ (liveC s x = 0 ∧ SngS x.toNat B s L s' L')) : sngM (absM s L) x B = (liveC s x, absM s' L') := by
  unfold sngM
  rw [err_abs hE]
  rcases h with ⟨h1, h2, h3⟩ | ⟨h1, h2⟩
  · rw [find_dead hE h1, h2, h3]
  · obtain ⟨i, rfl, hi, hw⟩ := liveC_live hE h1
    rw [Int.toNat_natCast] at h2
    rw [find_live hE hi (by omega)]
    show (liveC s (i : Int), if s.neg i = B then _ else _) = _
    rcases h2 with ⟨h3, h4, h5⟩ | ⟨h3, h4, h5⟩
    · rw [if_pos h3, h4, h5]
    · obtain ⟨a1, a2, a3⟩ := h4.abs hE hw h5
      rw [if_neg h3, h4.cf.absM, a1, a2, a3]
      rfl
def fgtM (m : MS) (k : Nat) : Bool × MS := (decide (k ∈ m.O), { m with O := noK m.O k })
theorem FgS.cf {F : Bool} (h : FgS k F s L s' L') : Cf s s' := by
  rcases h with ⟨_, h1, _⟩ | ⟨_, g, _, hd⟩
  · rw [h1]; exact Cf.refl s
  · have f := hd.2.2.1
    exact ⟨f.n, f.m, f.slots, f.kin, f.kout, f.kneg, f.shift⟩
theorem FgS.model {F : Bool} (hE : EI s L C) (h : FgS k F s L s' L') : fgtM (absM s L) k = (F, absM s' L') := by
  obtain ⟨a1, a2, a3⟩ := h.abs hE
  unfold fgtM
  rw [h.cf.absM, a2, a3 1 (.inl rfl), a3 2 (.inr rfl), a1]
  rfl
def repM (m : MS) (x : Int) (k : Nat) (B : Bool) : Nat × MS :=
  if idleM m x = 0 then (if lkM m k x = true then (2, m) else (0, if k ∈ m.O ∧ B = false then { pgM m x with O := noK (goneM m x) k, M := ⟨x, k, 0, B⟩ :: woutI m.M x } else { pgM m x with O := noK (goneM m x) k, I := ⟨x, k, 0, B⟩ :: woutI m.I x })) else (idleM m x, m)
theorem RepS.model {x : Int} {c : Nat} (hE : EI s L C) (hE' : EI s' L' C') (h : RepS x k B s L c s' L') : repM (absM s L) x k B = (c, absM s' L') := by
  unfold repM
  rw [idle_abs hE]
  cases h with
  | busy _ h1 h2 => rw [if_neg (by rw [h1]; exact h2), h1]
  | dup i hx h1 j hj hji hw hk =>
    rw [if_pos h1, if_pos ((lk_abs hE k x).2 ⟨j, hj, hw, hk, fun e => hji (by omega)⟩)]
  | ok i hx h1 q hq hnd s1 L1 h2 s2 L2 h3 _ _ he =>
    have hlk : ¬ lkM (absM s L) k x = true := fun hh => by
      obtain ⟨j, g1, g2, g3, g4⟩ := (lk_abs hE k x).1 hh
      exact hnd j g1 (fun e => g4 (by rw [hx, e])) g2 g3
    obtain ⟨i', hxi, hi, hw, hp, hcf, hG, _, _, _, _, _, hV⟩ := RepS.abs hE hE' (RepS.ok i hx h1 q hq hnd s1 L1 h2 s2 L2 h3 s' L' he)
    obtain rfl : i = i' := by omega
    subst hx
    rw [if_pos h1, if_neg hlk, hcf.absM, hG, gone_abs hE hi hw]
    rcases hV with ⟨k1, k2, v1, v2⟩ | ⟨k1, v1, v2⟩
    · rw [if_pos (show k ∈ (absM s L).O ∧ B = false from ⟨k1, k2⟩), v1, v2]; rfl
    · rw [if_neg (show ¬ (k ∈ (absM s L).O ∧ B = false) from k1), v1, v2]; rfl
def vicM (m : MS) : Option TEnt := expP m.I m.M m.kin m.kneg
theorem vic_abs (hE : EI s L C) : vicM (absM s L) = (victimS s L).map (entOf s) := exp_victim hE
def rclM (m : MS) : MS := match vicM m with
  | none => m
  | some e => pgM m e.slot
theorem RclS.model {o : Option Nat} (hE : EI s L C) (h : RclS o s L s' L') : rclM (absM s L) = absM s' L' := by
  obtain ⟨ho, h⟩ := h
  unfold rclM
  rw [vic_abs hE]
  subst ho
  cases hv : victimS s L with
  | none =>
    rw [hv] at h
    obtain ⟨h1, h2⟩ := h
    rw [h1, h2]
    rfl
  | some i =>
    rw [hv] at h
    have h' : PgS i s L s' L' := h
    obtain ⟨h1, h2, _⟩ := hE.victim hv
    exact PgS.model hE h1 h2 h'
/-- The model's step: error, some, slot, and the model behind it. -/
def stepM (m : MS) (kind : Nat) (x : Int) (k : Nat) (B : Bool) : Nat × Bool × Int × MS :=
  if kind = 1 then ((insM m x k B).1, false, 0, (insM m x k B).2)
  else if kind = 2 then ((touM m x).1, false, 0, (touM m x).2)
  else if kind = 3 then ((remM m x).1, false, 0, (remM m x).2)
  else if kind = 4 then ((pinM m x).1, false, 0, (pinM m x).2)
  else if kind = 5 then ((unpM m x).1, false, 0, (unpM m x).2)
  else if kind = 6 then (0, (vicM m).isSome, slotO (vicM m), m)
  else if kind = 7 then ((eviM m x).1, false, 0, (eviM m x).2)
  else if kind = 8 then (0, (vicM m).isSome, slotO (vicM m), rclM m)
  else if kind = 9 then ((repM m x k B).1, false, 0, (repM m x k B).2)
  else if kind = 10 then ((sngM m x B).1, false, 0, (sngM m x B).2)
  else if kind = 11 then (0, (fgtM m k).1, 0, (fgtM m k).2)
  else (0, false, 0, m)
theorem StpS.model {x : Int} {a b c d : Int} {kind err : Nat} {som : Bool} {slt : Int} (h : StpS x k B a b c d s L kind err som slt s' L') (hE : EI s L C) (hE' : EI s' L' C') (h0 : kind ≠ 0) : stepM (absM s L) kind x k B = (err, som, slt, absM s' L') := by
  unfold stepM
  cases h with
  | bad _ => exact absurd rfl h0
  | new _ _ _ _ => exact absurd rfl h0
  | ins v _ _ h => rw [if_pos rfl, h.model hE]
  | tou _ _ h => rw [if_neg (by omega), if_pos rfl, TouS.model hE h]
  | rem _ _ h => rw [if_neg (by omega), if_neg (by omega), if_pos rfl, RemS.model hE h]
  | pin _ h => rw [if_neg (by omega), if_neg (by omega), if_neg (by omega), if_pos rfl, PinS.model hE h]
  | unp _ h => rw [if_neg (by omega), if_neg (by omega), if_neg (by omega), if_neg (by omega), if_pos rfl, UnpS.model hE h]
  | vic => rw [if_neg (by omega), if_neg (by omega), if_neg (by omega), if_neg (by omega), if_neg (by omega), if_pos rfl, vic_abs hE, slotO_victim, Option.isSome_map]
  | evi _ _ h => rw [if_neg (by omega), if_neg (by omega), if_neg (by omega), if_neg (by omega), if_neg (by omega), if_neg (by omega), if_pos rfl, EviS.model hE h]
  | rcl o _ _ h => rw [if_neg (by omega), if_neg (by omega), if_neg (by omega), if_neg (by omega), if_neg (by omega), if_neg (by omega), if_neg (by omega), if_pos rfl, h.model hE, vic_abs hE, slotO_victim, Option.isSome_map, h.1]
  | rep v _ _ h => rw [if_neg (by omega), if_neg (by omega), if_neg (by omega), if_neg (by omega), if_neg (by omega), if_neg (by omega), if_neg (by omega), if_neg (by omega), if_pos rfl, h.model hE hE']
  | sng _ _ h => rw [if_neg (by omega), if_neg (by omega), if_neg (by omega), if_neg (by omega), if_neg (by omega), if_neg (by omega), if_neg (by omega), if_neg (by omega), if_neg (by omega), if_pos rfl, SngS.model hE h]
  | fgt F _ _ h => rw [if_neg (by omega), if_neg (by omega), if_neg (by omega), if_neg (by omega), if_neg (by omega), if_neg (by omega), if_neg (by omega), if_neg (by omega), if_neg (by omega), if_neg (by omega), if_pos rfl, h.model hE]
  | none kd h => rw [if_neg (by omega), if_neg (by omega), if_neg (by omega), if_neg (by omega), if_neg (by omega), if_neg (by omega), if_neg (by omega), if_neg (by omega), if_neg (by omega), if_neg (by omega), if_neg (by omega)]
end
end Go.Proofs.Qxb6500892aDoor
