/- A type's text tells the type. No Go here. -/
import Derived.Test.Qxb6500883aGreatDoorScVc
namespace Go.Proofs.Qxb6500883aGreatDoor
open Go.RowKit
set_option linter.unusedSimpArgs false
set_option linter.unusedVariables false
/-- A word ends where its letters end. -/
theorem word_split {c c' : UInt8} {s s' : List UInt8} (hc : wdB c.toNat = false) (hc' : wdB c'.toNat = false) : ∀ {u v : List UInt8}, (∀ b ∈ u, wdB b.toNat = true) → (∀ b ∈ v, wdB b.toNat = true) → u ++ c :: s = v ++ c' :: s' → u = v ∧ c = c' ∧ s = s'
  | [], [], _, _, h => by simp at h; exact ⟨rfl, h⟩
  | [], b :: v, _, hv, h => by
    simp at h
    have := hv b (by simp)
    rw [← h.1, hc] at this
    cases this
  | b :: u, [], hu, _, h => by
    simp at h
    have := hu b (by simp)
    rw [h.1, hc'] at this
    cases this
  | a :: u, b :: v, hu, hv, h => by
    simp at h
    obtain ⟨h1, h2, h3⟩ := word_split hc hc' (u := u) (v := v) (fun x hx => hu x (by simp [hx])) (fun x hx => hv x (by simp [hx])) h.2
    exact ⟨by rw [h.1, h1], h2, h3⟩
/-- The number that digits spell. -/
def dgV (l : List UInt8) : Nat := l.foldl (fun a b => a * 10 + (b.toNat - 48)) 0
theorem dg_byte {n : Nat} (h : n < 10) : ((48 + n).toUInt8).toNat = 48 + n := by
  rw [Nat.toUInt8, UInt8.toNat_ofNat']
  omega
theorem dgV_dgL (n : Nat) : dgV (dgL n) = n := by
  induction n using Nat.strongRecOn with
  | ind n ih =>
    by_cases h : n < 10
    · rw [dgL_small h]
      unfold dgV
      simp only [List.foldl_cons, List.foldl_nil]
      rw [dg_byte h]
      omega
    · rw [dgL_big h, dgL_small (show n % 10 < 10 by omega)]
      have := ih (n / 10) (by omega)
      unfold dgV at this ⊢
      rw [List.foldl_append, this]
      simp only [List.foldl_cons, List.foldl_nil]
      rw [dg_byte (show n % 10 < 10 by omega)]
      omega
theorem dgL_inj {a b : Nat} (h : dgL a = dgL b) : a = b := by
  have := congrArg dgV h
  rwa [dgV_dgL, dgV_dgL] at this
theorem dgL_dig (n : Nat) : ∀ b ∈ dgL n, dgB b.toNat = true := by
  induction n using Nat.strongRecOn with
  | ind n ih =>
    intro b hb
    have one : ∀ m, m < 10 → dgB ((48 + m).toUInt8).toNat = true := fun m hm => by
      rw [dg_byte hm]
      unfold dgB
      simp
      omega
    by_cases h : n < 10
    · rw [dgL_small h] at hb
      rw [List.mem_singleton] at hb
      subst hb
      exact one n h
    · rw [dgL_big h, dgL_small (show n % 10 < 10 by omega)] at hb
      rcases List.mem_append.1 hb with h1 | h1
      · exact ih (n / 10) (by omega) b h1
      · rw [List.mem_singleton] at h1
        subst h1
        exact one _ (by omega)
theorem dgL_wd (n : Nat) : ∀ b ∈ dgL n, wdB b.toNat = true := fun b hb => by
  unfold wdB
  rw [dgL_dig n b hb, Bool.or_true]
/-- The word of a bracketed type. -/
def kwd (k : Nat) : List UInt8 := if k = 3 then [86, 101, 99, 116, 111, 114] else if k = 4 then [76, 105, 115, 116] else if k = 5 then [66, 105, 116, 118, 101, 99, 116, 111, 114] else if k = 6 then [66, 105, 116, 108, 105, 115, 116] else [85, 110, 105, 111, 110]
theorem kwd_wd (k : Nat) : ∀ b ∈ kwd k, wdB b.toNat = true := by
  unfold kwd
  repeat' split
  all_goals decide
theorem kwd_inj {k q : Nat} (hk : brk k = true) (hq : brk q = true) (h : kwd k = kwd q) : k = q := by
  have h1 : k = 3 ∨ k = 4 ∨ k = 5 ∨ k = 6 ∨ k = 8 := by unfold brk at hk; simp at hk; omega
  have h2 : q = 3 ∨ q = 4 ∨ q = 5 ∨ q = 6 ∨ q = 8 := by unfold brk at hq; simp at hq; omega
  rcases h1 with rfl | rfl | rfl | rfl | rfl <;> rcases h2 with rfl | rfl | rfl | rfl | rfl <;> first | rfl | (exact absurd h (by decide))
def bdy (T : TS) (r : Nat → List UInt8) (x : TR) : List UInt8 :=
  if x.kind = 3 ∨ x.kind = 4 then r x.elem.toNat ++ 44 :: 32 :: (dgL x.length ++ [93]) else if x.kind = 5 ∨ x.kind = 6 then dgL x.length ++ [93] else jnL r (opT T x) ++ [93]
theorem flW_eq {T : TS} {r : Nat → List UInt8} {x : TR} (hk : brk x.kind = true) : flW T r x = kwd x.kind ++ 91 :: bdy T r x := by
  have h1 : x.kind = 3 ∨ x.kind = 4 ∨ x.kind = 5 ∨ x.kind = 6 ∨ x.kind = 8 := by unfold brk at hk; simp at hk; omega
  unfold flW bdy kwd
  rcases h1 with h | h | h | h | h <;> rw [h] <;> simp
theorem jnL_cons (r : Nat → List UInt8) (o : Nat) (os : List Nat) : jnL r (o :: os) = r o ++ os.flatMap (fun q => 44 :: 32 :: r q) := by
  unfold jnL
  have h : ∀ (l : List Nat) (k : Nat), 0 < k → (l.zipIdx k).flatMap (fun p => (if p.2 = 0 then [] else [44, 32]) ++ r p.1) = l.flatMap (fun q => (44 : UInt8) :: 32 :: r q) := by
    intro l
    induction l with
    | nil => intro k _; rfl
    | cons a l ih =>
      intro k hk
      rw [List.zipIdx_cons, List.flatMap_cons, List.flatMap_cons, ih (k + 1) (by omega)]
      simp only
      rw [if_neg (by omega)]
      rfl
  rw [List.zipIdx_cons, List.flatMap_cons, h os 1 (by decide)]
  simp
/-- Names of types: built-in words, containers, aliases. -/
def nmd (T : TS) (al : Nat → Int) (i : Nat) : Option (List UInt8) := if i < 8 then some (bwB i).data.toList else match T.types[i]? with
  | none => none
  | some x => if x.kind = 7 then some x.name.data.toList else if 0 ≤ al i then some (dnm T (al i).toNat) else none
theorem rf_nmd {T : TS} {al : Nat → Int} {i : Nat} {u : List UInt8} (h : nmd T al i = some u) : rf T al i = u := by
  unfold nmd at h
  split at h
  · rename_i h8
    rw [rf_basic h8]
    exact Option.some.inj h
  · rename_i h8
    split at h
    · cases h
    · rename_i x hx
      split at h
      · rename_i h7
        rw [rf_con h8 hx h7]
        exact Option.some.inj h
      · rename_i h7
        split at h
        · rename_i ha
          rw [rf_alias h8 hx h7 ha]
          exact Option.some.inj h
        · cases h
theorem rf_none {T : TS} {al : Nat → Int} (hT : TStr T) {i : Nat} (hi : i < T.types.length) (h : nmd T al i = none) : 8 ≤ i ∧ ∃ x, T.types[i]? = some x ∧ brk x.kind = true ∧ rf T al i = fl T al x := by
  obtain ⟨x, hx⟩ : ∃ x, T.types[i]? = some x := ⟨_, List.getElem?_eq_getElem hi⟩
  unfold nmd at h
  split at h
  · cases h
  · rename_i h8
    rw [hx] at h
    simp only at h
    split at h
    · cases h
    · rename_i h7
      split at h
      · cases h
      · rename_i ha
        refine ⟨by omega, x, hx, ?_, rf_full hT h8 hx h7 ha⟩
        cases hT i x (by omega) hx with
        | ser h1 _ _ => unfold brk; simp; omega
        | bit h1 _ => unfold brk; simp; omega
        | con h1 _ _ _ => exact absurd h1 h7
        | uni h1 _ _ _ => unfold brk; simp; omega
/-- Each name is a word, and of one type. -/
structure NmU (T : TS) (al : Nat → Int) : Prop where
  w : ∀ i u, nmd T al i = some u → u ≠ [] ∧ ∀ b ∈ u, wdB b.toNat = true
  u : ∀ i j u, i < T.types.length → j < T.types.length → nmd T al i = some u → nmd T al j = some u → i = j
/-- Two types of one structure are one type. -/
structure StU (T : TS) : Prop where
  s : ∀ (i j : Nat) (x y : TR), 8 ≤ i → 8 ≤ j → T.types[i]? = some x → T.types[j]? = some y → brk x.kind = true → x.kind = y.kind → (x.kind ≠ 8 → x.elem = y.elem ∧ x.length = y.length) → (x.kind = 8 → opT T x = opT T y) → i = j
section
variable {T : TS} {al : Nat → Int}
/-- The text ends behind a type. -/
def endB (c : UInt8) : Prop := c = 44 ∨ c = 93
theorem endB.nw {c : UInt8} (h : endB c) : wdB c.toNat = false ∧ c ≠ 91 := by
  rcases h with rfl | rfl <;> decide
def RfI (T : TS) (al : Nat → Int) (m : Nat) : Prop := ∀ i j, i < m → i < T.types.length → j < T.types.length → ∀ c c' s s', endB c → endB c' → rf T al i ++ c :: s = rf T al j ++ c' :: s' → i = j ∧ c = c' ∧ s = s'
theorem jn_inj (r : Nat → List UInt8) {m : Nat → Prop} {m' : Nat → Prop} (hr : ∀ i j, m i → m' j → ∀ c c' s s', endB c → endB c' → r i ++ c :: s = r j ++ c' :: s' → i = j ∧ c = c' ∧ s = s') : ∀ (os qs : List Nat) (c c' : UInt8) (s s' : List UInt8), (∀ o ∈ os, m o) → (∀ o ∈ qs, m' o) → os.flatMap (fun q => (44 : UInt8) :: 32 :: r q) ++ 93 :: s = qs.flatMap (fun q => (44 : UInt8) :: 32 :: r q) ++ 93 :: s' → os = qs ∧ s = s'
  | [], [], _, _, s, s', _, _, h => by simp at h; exact ⟨rfl, h⟩
  | [], q :: qs, _, _, s, s', _, _, h => by simp at h
  | o :: os, [], _, _, s, s', _, _, h => by simp at h
  | o :: os, q :: qs, c, c', s, s', ho, hq, h => by
    rw [List.flatMap_cons, List.flatMap_cons] at h
    simp only [List.cons_append, List.cons.injEq, true_and, List.append_assoc] at h
    have e : ∀ (l : List Nat) (z : List UInt8), ∃ c z', endB c ∧ l.flatMap (fun q => (44 : UInt8) :: 32 :: r q) ++ 93 :: z = c :: z' := by
      intro l z
      cases l with
      | nil => exact ⟨93, z, .inr rfl, rfl⟩
      | cons a l => exact ⟨44, _, .inl rfl, rfl⟩
    obtain ⟨c1, z1, e1, e2⟩ := e os s
    obtain ⟨c2, z2, e3, e4⟩ := e qs s'
    rw [e2, e4] at h
    obtain ⟨h1, h2, h3⟩ := hr o q (ho o (by simp)) (hq q (by simp)) c1 c2 z1 z2 e1 e3 h
    have h5 : os.flatMap (fun q => (44 : UInt8) :: 32 :: r q) ++ 93 :: s = qs.flatMap (fun q => (44 : UInt8) :: 32 :: r q) ++ 93 :: s' := by rw [e2, e4, h2, h3]
    obtain ⟨h6, h7⟩ := jn_inj r hr os qs c c' s s' (fun x hx => ho x (by simp [hx])) (fun x hx => hq x (by simp [hx])) h5
    exact ⟨by rw [h1, h6], h7⟩
theorem fl_inj (hT : TStr T) (hS : StU T) {i j : Nat} {x y : TR} (hi : 8 ≤ i) (hj : 8 ≤ j) (hx : T.types[i]? = some x) (hy : T.types[j]? = some y) (hkx : brk x.kind = true) (hky : brk y.kind = true) (ih : RfI T al i) {s s' : List UInt8} (h : fl T al x ++ s = fl T al y ++ s') : i = j ∧ s = s' := by
  have hli := (List.getElem?_eq_some_iff.1 hx).1
  have hlj := (List.getElem?_eq_some_iff.1 hy).1
  unfold fl at h
  rw [flW_eq hkx, flW_eq hky, List.append_assoc, List.append_assoc, List.cons_append, List.cons_append] at h
  obtain ⟨h1, _, h2⟩ := word_split (by decide) (by decide) (kwd_wd _) (kwd_wd _) h
  have hk := kwd_inj hkx hky h1
  have hpx := (hT i x hi hx).prt
  have hpy := (hT j y hj hy).prt
  have hb : x.kind = 3 ∨ x.kind = 4 ∨ x.kind = 5 ∨ x.kind = 6 ∨ x.kind = 8 := by unfold brk at hkx; simp at hkx; omega
  unfold bdy at h2
  unfold prtT at hpx hpy
  by_cases h3 : x.kind = 3 ∨ x.kind = 4
  · have h3' : y.kind = 3 ∨ y.kind = 4 := by rw [← hk]; exact h3
    rw [if_pos h3, if_pos h3'] at h2
    rw [if_pos h3] at hpx
    rw [if_pos h3'] at hpy
    simp only [List.append_assoc, List.cons_append, List.nil_append] at h2
    have ha := hpx x.elem.toNat (by simp)
    have hb := hpy y.elem.toNat (by simp)
    obtain ⟨g1, _, g2⟩ := ih _ _ ha (by omega) (by omega) 44 44 _ _ (.inl rfl) (.inl rfl) h2
    simp only [List.cons.injEq, true_and] at g2
    obtain ⟨g3, _, g4⟩ := word_split (by decide) (by decide) (dgL_wd _) (dgL_wd _) g2
    refine ⟨hS.s i j x y hi hj hx hy hkx hk (fun _ => ⟨?_, dgL_inj g3⟩) (fun h8 => by omega), g4⟩
    have e1 : ∃ e : Nat, x.elem = (e : Int) := by
      cases hT i x hi hx with
      | ser _ h _ => exact ⟨_, h⟩
      | bit _ _ => omega
      | con _ _ _ _ => omega
      | uni _ _ _ _ => omega
    have e2 : ∃ e : Nat, y.elem = (e : Int) := by
      cases hT j y hj hy with
      | ser _ h _ => exact ⟨_, h⟩
      | bit _ _ => omega
      | con _ _ _ _ => omega
      | uni _ _ _ _ => omega
    obtain ⟨e1, f1⟩ := e1
    obtain ⟨e2, f2⟩ := e2
    rw [f1, f2] at g1 ⊢
    simp at g1
    rw [g1]
  · have h3' : ¬ (y.kind = 3 ∨ y.kind = 4) := by rw [← hk]; exact h3
    rw [if_neg h3, if_neg h3'] at h2
    by_cases h5 : x.kind = 5 ∨ x.kind = 6
    · have h5' : y.kind = 5 ∨ y.kind = 6 := by rw [← hk]; exact h5
      rw [if_pos h5, if_pos h5'] at h2
      simp only [List.append_assoc, List.cons_append, List.nil_append] at h2
      obtain ⟨g3, _, g4⟩ := word_split (by decide) (by decide) (dgL_wd _) (dgL_wd _) h2
      refine ⟨hS.s i j x y hi hj hx hy hkx hk (fun _ => ⟨?_, dgL_inj g3⟩) (fun h8 => by omega), g4⟩
      have e1 : x.elem = -1 := by
        cases hT i x hi hx with
        | ser _ h _ => omega
        | bit _ h => exact h
        | con _ _ _ _ => omega
        | uni _ _ _ _ => omega
      have e2 : y.elem = -1 := by
        cases hT j y hj hy with
        | ser _ h _ => omega
        | bit _ h => exact h
        | con _ _ _ _ => omega
        | uni _ _ _ _ => omega
      rw [e1, e2]
    · have h8 : x.kind = 8 := by omega
      have h5' : ¬ (y.kind = 5 ∨ y.kind = 6) := by rw [← hk]; exact h5
      have h8' : y.kind = 8 := by rw [← hk]; exact h8
      have h7 : ¬ x.kind = 7 := by omega
      have h7' : ¬ y.kind = 7 := by omega
      rw [if_neg h5, if_neg h5'] at h2
      rw [if_neg h3, if_neg h7, if_pos h8] at hpx
      rw [if_neg h3', if_neg h7', if_pos h8'] at hpy
      simp only [List.append_assoc, List.cons_append, List.nil_append] at h2
      have n1 : opT T x ≠ [] := by
        cases hT i x hi hx with
        | ser _ _ _ => omega
        | bit _ _ => omega
        | con _ _ _ _ => omega
        | uni _ a b _ =>
          intro e
          have := congrArg List.length e
          unfold opT at this
          rw [List.length_take, List.length_drop, List.length_nil] at this
          omega
      have n2 : opT T y ≠ [] := by
        cases hT j y hj hy with
        | ser _ _ _ => omega
        | bit _ _ => omega
        | con _ _ _ _ => omega
        | uni _ a b _ =>
          intro e
          have := congrArg List.length e
          unfold opT at this
          rw [List.length_take, List.length_drop, List.length_nil] at this
          omega
      have key : opT T x = opT T y ∧ s = s' := by
        cases ox : opT T x with
        | nil => exact absurd ox n1
        | cons o os =>
          cases oy : opT T y with
          | nil => exact absurd oy n2
          | cons q qs =>
            rw [ox] at hpx
            rw [oy] at hpy
            rw [ox, oy, jnL_cons, jnL_cons, List.append_assoc, List.append_assoc] at h2
            have e : ∀ (l : List Nat) (z : List UInt8), ∃ c z', endB c ∧ l.flatMap (fun q => (44 : UInt8) :: 32 :: rf T al q) ++ 93 :: z = c :: z' := by
              intro l z
              cases l with
              | nil => exact ⟨93, z, .inr rfl, rfl⟩
              | cons a l => exact ⟨44, _, .inl rfl, rfl⟩
            obtain ⟨c1, z1, e1, e2⟩ := e os s
            obtain ⟨c2, z2, e3, e4⟩ := e qs s'
            rw [e2, e4] at h2
            obtain ⟨g1, g2, g3⟩ := ih o q (hpx o (by simp)) (by have := hpx o (by simp); omega) (by have := hpy q (by simp); omega) c1 c2 z1 z2 e1 e3 h2
            have g5 : os.flatMap (fun q => (44 : UInt8) :: 32 :: rf T al q) ++ 93 :: s = qs.flatMap (fun q => (44 : UInt8) :: 32 :: rf T al q) ++ 93 :: s' := by rw [e2, e4, g2, g3]
            obtain ⟨g6, g7⟩ := jn_inj (rf T al) (m := fun a => a < i) (m' := fun a => a < T.types.length) (fun a b ha hb c c' s s' e1 e2 e3 => ih a b ha (by omega) hb c c' s s' e1 e2 e3) os qs 44 44 s s' (fun a ha => hpx a (by simp [ha])) (fun a ha => by have := hpy a (by simp [ha]); omega) g5
            exact ⟨by rw [g1, g6], g7⟩
      exact ⟨hS.s i j x y hi hj hx hy hkx hk (fun h => absurd h8 h) (fun _ => key.1), key.2⟩
/-- A type's text tells the type. -/
theorem rf_inj (hT : TStr T) (hS : StU T) (hN : NmU T al) : ∀ m, RfI T al m := by
  intro m
  induction m with
  | zero => intro i j h; omega
  | succ m ih =>
    intro i j hi hli hlj c c' s s' hc hc' h
    have ih' : RfI T al i := fun a b ha => ih a b (by omega)
    cases ni : nmd T al i with
    | some u =>
      rw [rf_nmd ni] at h
      cases nj : nmd T al j with
      | some v =>
        rw [rf_nmd nj] at h
        obtain ⟨h1, h2, h3⟩ := word_split hc.nw.1 hc'.nw.1 (hN.w i u ni).2 (hN.w j v nj).2 h
        subst h1
        exact ⟨hN.u i j u hli hlj ni nj, h2, h3⟩
      | none =>
        obtain ⟨_, y, hy, hk, e⟩ := rf_none hT hlj nj
        rw [e] at h
        unfold fl at h
        rw [flW_eq hk, List.append_assoc, List.cons_append] at h
        obtain ⟨_, h2, _⟩ := word_split hc.nw.1 (by decide) (hN.w i u ni).2 (kwd_wd _) h
        exact absurd h2 hc.nw.2
    | none =>
      obtain ⟨h8, x, hx, hk, e⟩ := rf_none hT hli ni
      rw [e] at h
      cases nj : nmd T al j with
      | some v =>
        rw [rf_nmd nj] at h
        unfold fl at h
        rw [flW_eq hk, List.append_assoc, List.cons_append] at h
        obtain ⟨_, h2, _⟩ := word_split (by decide) hc'.nw.1 (kwd_wd _) (hN.w j v nj).2 h
        exact absurd h2.symm hc'.nw.2
      | none =>
        obtain ⟨h8', y, hy, hk', e'⟩ := rf_none hT hlj nj
        rw [e'] at h
        obtain ⟨h1, h2⟩ := fl_inj hT hS h8 h8' hx hy hk hk' ih' h
        simp only [List.cons.injEq] at h2
        exact ⟨h1, h2.1, h2.2⟩
end
end Go.Proofs.Qxb6500883aGreatDoor
