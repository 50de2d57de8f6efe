/- How far a text can go without a byte that is neither letter nor digit. No Go here. -/
import Derived.Test.Qxb6500883aGreatDoorScK
namespace Go.Proofs.Qxb6500883aGreatDoor
open Go.RowKit
set_option linter.unusedSimpArgs false
set_option linter.unusedVariables false
/-- The bytes that belong to no word. -/
def nwc (u : List UInt8) : Nat := u.countP fun b => !wdB b.toNat
/-- Each stretch has a byte of no word at least every forty bytes, but for C bytes in all. -/
def Gd (C : Nat) (s : List UInt8) : Prop := ∀ a u b, s = a ++ u ++ b → u.length ≤ 40 * nwc u + C
theorem nwc_append (u v : List UInt8) : nwc (u ++ v) = nwc u + nwc v := by unfold nwc; exact List.countP_append
theorem nwc_le (u : List UInt8) : nwc u ≤ u.length := by unfold nwc; exact List.countP_le_length
theorem split2 {a u b s x : List UInt8} (h : s ++ x = a ++ u ++ b) : (∃ b', s = a ++ u ++ b') ∨ (∃ a', x = a' ++ u ++ b) ∨ ∃ u1 u2, u = u1 ++ u2 ∧ s = a ++ u1 ∧ x = u2 ++ b := by
  rcases List.append_eq_append_iff.1 h with ⟨ae, h1, h2⟩ | ⟨bs, h1, h2⟩
  · -- a ++ u = s ++ ae, x = ae ++ b
    rcases List.append_eq_append_iff.1 h1 with ⟨cs, h3, h4⟩ | ⟨ds, h3, h4⟩
    · -- s = a ++ cs, u = cs ++ ae
      exact .inr (.inr ⟨cs, ae, h4, h3, h2⟩)
    · -- a = s ++ ds, ae = ds ++ u
      exact .inr (.inl ⟨ds, by rw [h2, h4]⟩)
  · exact .inl ⟨bs, h1⟩
theorem Gd.nil (C : Nat) : Gd C [] := fun a u b h => by
  have : u = [] := by
    have := congrArg List.length h
    simp at this
    exact List.eq_nil_of_length_eq_zero (by omega)
  subst this
  exact Nat.zero_le _
theorem Gd.mono {C D : Nat} {s : List UInt8} (h : Gd C s) (hd : C ≤ D) : Gd D s := fun a u b e => by have := h a u b e; omega
theorem Gd.pre {C : Nat} {s x : List UInt8} (h : Gd C (s ++ x)) : Gd C s := fun a u b e => h a u (b ++ x) (by rw [e]; simp)
theorem Gd.suf {C : Nat} {s x : List UInt8} (h : Gd C (s ++ x)) : Gd C x := fun a u b e => h (s ++ a) u b (by rw [e]; simp)
theorem Gd.app {C : Nat} {s x : List UInt8} (h : Gd C s) : Gd (C + x.length) (s ++ x) := fun a u b e => by
  rcases split2 e with ⟨b', h1⟩ | ⟨a', h1⟩ | ⟨u1, u2, h1, h2, h3⟩
  · have := h a u b' h1; omega
  · have := congrArg List.length h1
    simp at this
    omega
  · have h4 := h a u1 [] (by rw [h2]; simp)
    have := congrArg List.length h3
    simp at this
    rw [h1, List.length_append, nwc_append]
    omega
theorem Gd.ins {C : Nat} {s x r : List UInt8} (h : Gd C (s ++ x)) : Gd (C + r.length) (s ++ r ++ x) := fun a u b e => by
  rcases split2 e with ⟨b', h1⟩ | ⟨a', h1⟩ | ⟨u1, u2, h1, h2, h3⟩
  · exact h.pre.app a u b' h1
  · have := h.suf a' u b h1; omega
  · -- u = u1 ++ u2, s ++ r = a ++ u1, x = u2 ++ b
    rcases List.append_eq_append_iff.1 h2 with ⟨ae, h4, h5⟩ | ⟨cs, h4, h5⟩
    · -- a = s ++ ae, r = ae ++ u1
      have h6 := h.suf [] u2 b (by rw [h3]; simp)
      have := congrArg List.length h5
      simp at this
      rw [h1, List.length_append, nwc_append]
      omega
    · -- s = a ++ cs, u1 = cs ++ r
      have h6 := h a (cs ++ u2) b (by rw [h4, h3]; simp)
      rw [List.length_append, nwc_append] at h6
      rw [h1, h5, List.length_append, nwc_append, List.length_append, nwc_append]
      omega
theorem Gd.del {C : Nat} {s d x : List UInt8} (h : Gd C (s ++ d ++ x)) : Gd (C + 40 * d.length) (s ++ x) := fun a u b e => by
  rcases split2 e with ⟨b', h1⟩ | ⟨a', h1⟩ | ⟨u1, u2, h1, h2, h3⟩
  · have := h.pre.pre a u b' h1; omega
  · have := h.suf a' u b h1; omega
  · have h6 := h a (u1 ++ d ++ u2) b (by rw [h2, h3]; simp)
    rw [List.length_append, List.length_append, nwc_append, nwc_append] at h6
    have := nwc_le d
    rw [h1, List.length_append, nwc_append]
    omega
theorem Gd.poke {C : Nat} {s x : List UInt8} {y z : UInt8} (h : Gd C (s ++ [y] ++ x)) : Gd (C + 41) (s ++ [z] ++ x) := (h.del.ins (r := [z])).mono (by simp)
/-- A flood: every suffix has such a byte every forty bytes. -/
structure Fld (s : List UInt8) : Prop where
  u : ∀ a u, s = a ++ u → u.length ≤ 40 * nwc u
  g : Gd 40 s
theorem Fld.nil : Fld [] := ⟨fun a u h => by
  have := congrArg List.length h
  simp at this
  obtain rfl : u = [] := List.eq_nil_of_length_eq_zero (by omega)
  exact Nat.zero_le _, Gd.nil _⟩
theorem Fld.item {s x : List UInt8} {y : UInt8} (h : Fld s) (hl : x.length ≤ 39) (hy : wdB y.toNat = false) : Fld (s ++ (x ++ [y])) := by
  have n1 : nwc [y] = 1 := by unfold nwc; rw [List.countP_cons, hy]; rfl
  refine ⟨fun a u e => ?_, fun a u b e => ?_⟩
  · have e : s ++ (x ++ [y]) = a ++ u ++ [] := by rw [e]; simp
    rcases List.append_eq_append_iff.1 (show s ++ (x ++ [y]) = a ++ u by rw [e]; simp) with ⟨ae, h1, h2⟩ | ⟨cs, h1, h2⟩
    · -- a = s ++ ae, x ++ [y] = ae ++ u
      cases hu : u with
      | nil => exact Nat.zero_le _
      | cons p q =>
        have h3 : u ≠ [] := by rw [hu]; simp
        have h6 : 1 ≤ nwc u := by
          rcases List.eq_nil_or_concat u with h4 | ⟨r, z, h4⟩
          · exact absurd h4 h3
          · have h4 : u = r ++ [z] := by simpa using h4
            rw [h4, ← List.append_assoc] at h2
            have h5 := (List.append_inj' h2 rfl).2
            have h5 : y = z := by simpa using h5
            unfold nwc
            refine List.countP_pos_iff.2 ⟨y, by rw [h4, h5]; simp, by rw [hy]; rfl⟩
        have h7 := congrArg List.length h2
        simp at h7
        rw [← hu]
        omega
    · -- s = a ++ cs, u = cs ++ (x ++ [y])
      have h3 := h.u a cs h1
      rw [h2, nwc_append, nwc_append, n1]
      simp
      omega
  · rcases split2 e with ⟨b', h1⟩ | ⟨a', h1⟩ | ⟨u1, u2, h1, h2, h3⟩
    · exact h.g a u b' h1
    · have := congrArg List.length h1
      simp at this
      omega
    · have h4 := h.u a u1 h2
      have := congrArg List.length h3
      simp at this
      rw [h1, List.length_append, nwc_append]
      omega
theorem Gd.fld {C : Nat} {s x : List UInt8} (h : Gd C s) (hx : Fld x) : Gd (C + 40) (s ++ x) := fun a u b e => by
  rcases split2 e with ⟨b', h1⟩ | ⟨a', h1⟩ | ⟨u1, u2, h1, h2, h3⟩
  · have := h a u b' h1; omega
  · have := hx.g a' u b h1; omega
  · have h4 := h a u1 [] (by rw [h2]; simp)
    have h5 := hx.g [] u2 b (by rw [h3]; simp)
    rw [h1, List.length_append, nwc_append]
    omega
/-- A word's length. -/
theorem Gd.word {C : Nat} {s : List UInt8} (h : Gd C s) {a u b : List UInt8} (e : s = a ++ u ++ b) (hu : ∀ x ∈ u, wdB x.toNat = true) : u.length ≤ C := by
  have h1 := h a u b e
  have h2 : nwc u = 0 := by
    unfold nwc
    rw [List.countP_eq_zero]
    intro x hx
    rw [hu x hx]
    decide
  omega
theorem takeWhile_all {p : UInt8 → Bool} : ∀ (l : List UInt8) (x : UInt8), x ∈ l.takeWhile p → p x = true
  | [], x, h => by simp at h
  | a :: l, x, h => by
    rw [List.takeWhile_cons] at h
    split at h
    · rename_i ha
      rcases List.mem_cons.1 h with h1 | h1
      · subst h1; exact ha
      · exact takeWhile_all l x h1
    · cases h
theorem wordT_len {C n s : Nat} {bs : List UInt8} (h : Gd C bs) (hl : bs.length = n) (hs : s < n) (hlt : ltB (cN bs s) = true) : (sub bs (wordT bs s).pos (wordT bs s).en).size ≤ C := by
  have hw : wdP bs (s + 1) ≤ bs.length := wdP_le bs (i := s + 1) (by omega)
  rw [show (wordT bs s).pos = s from rfl, show (wordT bs s).en = wdP bs (s + 1) from rfl, sub_size bs hw]
  unfold wdP wordL
  have e1 : bs = bs.take s ++ (bs.getD s 0 :: (bs.drop (s + 1)).takeWhile (fun b => wdB b.toNat)) ++ (bs.drop (s + 1)).dropWhile (fun b => wdB b.toNat) := by
    rw [List.append_assoc, List.cons_append, List.takeWhile_append_dropWhile]
    have : bs.getD s 0 :: bs.drop (s + 1) = bs.drop s := by
      rw [List.drop_eq_getElem_cons (show s < bs.length by omega)]
      congr 1
      rw [List.getD_eq_getElem?_getD, List.getElem?_eq_getElem (show s < bs.length by omega)]
      rfl
    rw [this, List.take_append_drop]
  have h2 := h.word e1 (fun x hx => by
    rcases List.mem_cons.1 hx with h1 | h1
    · subst h1
      have : ltB (bs.getD s 0).toNat = true := hlt
      unfold wdB
      rw [this]
      rfl
    · exact takeWhile_all _ x h1)
  rw [List.length_cons] at h2
  omega
theorem puN_ne (x : Nat) : puN x ≠ 4 := by
  unfold puN
  split <;> decide
theorem numT_ne {bs : List UInt8} {n s : Nat} : (numT bs n s).kind ≠ 4 := by
  have hs : ∀ b, (spoT n s b).kind ≠ 4 := fun b => by show (3 : Nat) ≠ 4; decide
  have hf : ∀ base i v, (numFin bs n s base i v).kind ≠ 4 := fun base i v => by
    unfold numFin
    split
    · exact hs _
    · unfold numEnd
      split
      · exact hs _
      · show (5 : Nat) ≠ 4; decide
  unfold numT
  repeat' split
  all_goals first | exact hs _ | exact hf _ _ _
/-- A name's length. -/
theorem name_len {C n i k : Nat} {bs : List UInt8} (h : Gd C bs) (hl : bs.length = n) (hk : (nextT bs n i k).1.kind = 4) : (sub bs (nextT bs n i k).1.pos (nextT bs n i k).1.en).size ≤ C := by
  unfold nextT at hk ⊢
  generalize skipP bs i = s at hk ⊢
  unfold tokAt at hk ⊢
  by_cases h1 : n ≤ s
  · rw [if_pos h1] at hk; cases hk
  rw [if_neg h1] at hk ⊢
  by_cases h2 : 65536 ≤ k
  · rw [if_pos h2] at hk; cases hk
  rw [if_neg h2] at hk ⊢
  by_cases h3 : ltB (cN bs s) = true
  · rw [if_pos h3]; exact wordT_len h hl (by omega) h3
  rw [if_neg h3] at hk ⊢
  by_cases h4 : dgB (cN bs s) = true
  · rw [if_pos h4] at hk; exact absurd hk numT_ne
  rw [if_neg h4] at hk ⊢
  by_cases h5 : puN (cN bs s) = 0
  · rw [if_pos h5] at hk; cases hk
  rw [if_neg h5] at hk ⊢
  by_cases h6 : puN (cN bs s) = 18 ∧ s + 1 < n ∧ cN bs (s + 1) = 42
  · rw [if_pos h6] at hk; cases hk
  rw [if_neg h6] at hk ⊢
  exact absurd hk (puN_ne _)
end Go.Proofs.Qxb6500883aGreatDoor
