/- Names are words and no keywords. No Go here. -/
import Derived.Test.Qxb6500883aGreatDoorScQe
namespace Go.Proofs.Qxb6500883aGreatDoor
open Go.RowKit
set_option linter.unusedSimpArgs false
set_option linter.unusedVariables false
/-- A name: letters and digits, a letter first, no keyword. -/
structure Idn (s : ByteArray) : Prop where
  hd : ∃ b l, s.data.toList = b :: l ∧ ltB b.toNat = true
  wd : ∀ b ∈ s.data.toList, wdB b.toNat = true
  kw : kwOf s = 0
theorem Idn.ne {s : ByteArray} (h : Idn s) : s.data.toList ≠ [] := by
  obtain ⟨b, l, e, _⟩ := h.hd
  rw [e]
  simp
theorem sub_word {bs : List UInt8} {s : Nat} (hs : s < bs.length) : (sub bs s (wdP bs (s + 1))).data.toList = bs.getD s 0 :: (bs.drop (s + 1)).takeWhile (fun b => wdB b.toNat) := by
  unfold sub wdP wordL
  have e0 : bs.drop s = bs.getD s 0 :: bs.drop (s + 1) := by
    rw [List.drop_eq_getElem_cons hs]
    congr 1
    rw [List.getD_eq_getElem?_getD, List.getElem?_eq_getElem hs]
    rfl
  show Array.toList (List.toArray _) = _
  rw [List.toList_toArray, e0]
  have e1 : ((s + 1) + ((bs.drop (s + 1)).takeWhile (fun b => wdB b.toNat)).length) - s = ((bs.drop (s + 1)).takeWhile (fun b => wdB b.toNat)).length + 1 := by omega
  rw [e1, List.take_succ_cons]
  congr 1
  conv => lhs; rw [← List.takeWhile_append_dropWhile (p := fun b : UInt8 => wdB b.toNat) (l := bs.drop (s + 1))]
  rw [List.take_left']
  rw [List.takeWhile_append_dropWhile]
theorem wordT_idn {bs : List UInt8} {s : Nat} (hs : s < bs.length) (hlt : ltB (cN bs s) = true) (hk : (wordT bs s).kind = 4) : Idn (sub bs (wordT bs s).pos (wordT bs s).en) := by
  have e1 : (wordT bs s).pos = s := rfl
  have e2 : (wordT bs s).en = wdP bs (s + 1) := rfl
  rw [e1, e2]
  have hw := sub_word hs
  refine ⟨⟨_, _, hw, hlt⟩, fun b hb => ?_, ?_⟩
  · rw [hw] at hb
    rcases List.mem_cons.1 hb with h | h
    · subst h
      have : ltB (bs.getD s 0).toNat = true := hlt
      unfold wdB
      rw [this]
      rfl
    · exact takeWhile_all _ b h
  · have hk : (if kwOf (sub bs s (wdP bs (s + 1))) != 0 then kwOf (sub bs s (wdP bs (s + 1))) else 4) = 4 := hk
    by_cases h0 : kwOf (sub bs s (wdP bs (s + 1))) = 0
    · exact h0
    · rw [if_pos (by simpa using h0)] at hk
      have h21 : kwOf (sub bs s (wdP bs (s + 1))) = 0 ∨ 21 ≤ kwOf (sub bs s (wdP bs (s + 1))) := by
        unfold kwOf
        split
        · rename_i x hx
          have := List.mem_of_find?_eq_some hx
          right
          have hall : ∀ x ∈ kwL, 21 ≤ x.2 := by decide
          exact hall x this
        · exact .inl rfl
      omega
theorem tok_idn {n i k : Nat} {bs : List UInt8} (hl : bs.length = n) (hk : (nextT bs n i k).1.kind = 4) : Idn (sub bs (nextT bs n i k).1.pos (nextT bs n i k).1.en) := by
  unfold nextT at hk ⊢
  generalize skipP bs i = s at hk ⊢
  unfold tokAt at hk ⊢
  by_cases h1 : n ≤ s
  · rw [if_pos h1] at hk; cases hk
  rw [if_neg h1] at hk ⊢
  by_cases h2 : 65536 ≤ k
  · rw [if_pos h2] at hk; cases hk
  rw [if_neg h2] at hk ⊢
  by_cases h3 : ltB (cN bs s) = true
  · rw [if_pos h3] at hk ⊢; exact wordT_idn (by omega) h3 hk
  rw [if_neg h3] at hk ⊢
  by_cases h4 : dgB (cN bs s) = true
  · rw [if_pos h4] at hk; exact absurd hk numT_ne
  rw [if_neg h4] at hk ⊢
  by_cases h5 : puN (cN bs s) = 0
  · rw [if_pos h5] at hk; cases hk
  rw [if_neg h5] at hk ⊢
  by_cases h6 : puN (cN bs s) = 18 ∧ s + 1 < n ∧ cN bs (s + 1) = 42
  · rw [if_pos h6] at hk; cases hk
  rw [if_neg h6] at hk
  exact absurd hk (puN_ne _)
section
variable {bs : List UInt8} {n : Nat}
theorem adv_idn (hl : bs.length = n) {S : PS} (hk : (S.adv bs n).tok.kind = 4) : Idn ((S.adv bs n).word bs) := tok_idn (i := S.pos) (k := S.cnt) hl hk
/-- The token of a state was read. -/
def TkR (bs : List UInt8) (n : Nat) (S : PS) : Prop := ∃ i k, S.tok = (nextT bs n i k).1
theorem TkR.idn (hl : bs.length = n) {S : PS} (h : TkR bs n S) (hk : S.tok.kind = 4) : Idn (S.word bs) := by
  obtain ⟨i, k, e⟩ := h
  unfold PS.word
  rw [e] at hk ⊢
  exact tok_idn hl hk
theorem TkR.adv (S : PS) : TkR bs n (S.adv bs n) := ⟨S.pos, S.cnt, rfl⟩
/-- All names of a file are names. -/
structure NmI (F : FS) : Prop where
  d : ∀ y ∈ F.decls, Idn y.name
  f : ∀ y ∈ F.fields, Idn y.name
theorem Prs.tkr (hl : bs.length = n) {nt : Nt} {S S' : PS} {r : Nat} (h : Prs bs n nt S (.ok S' r)) : nt = .typ → True := fun _ => trivial
theorem Flds.idn (hl : bs.length = n) {A B : PS} (h : Flds bs n A B) : TkR bs n A → TOk n A → (∀ y ∈ A.fs.fields, Idn y.name) → (∀ y ∈ B.fs.fields, Idn y.name) ∧ B.fs.decls = A.fs.decls := by
  induction h with
  | @nil S => intro _ _ h; exact ⟨h, rfl⟩
  | @cons S S1 r S' hk h8 hp h7 _ ih =>
    intro hr hT hf
    obtain ⟨a1, a2, a3, a4⟩ := (Prs.wf hl hp) 0 0 (TOk.adv hl (TOk.adv hl hT)) (Nat.zero_le _) (Nat.zero_le _) trivial
    have a1 : ExtF n 0 0 S.fs S1.fs := a1
    obtain ⟨b1, b2⟩ := ih ⟨S1.pos, S1.cnt, rfl⟩ ⟨(TOk.adv hl a2).tk, (TOk.adv hl a2).hp⟩ (fun y hy => by
      have hy : y ∈ S1.fs.fields ++ [⟨S.word bs, S.tok.pos, r⟩] := hy
      rw [a1.fd] at hy
      rcases List.mem_append.1 hy with h | h
      · exact hf y h
      · simp at h
        subst h
        exact hr.idn hl hk)
    refine ⟨b1, b2.trans ?_⟩
    exact a1.dc
theorem DclOk.idn (hl : bs.length = n) {S S1 : PS} {x : DN} (h : DclOk bs n S S1 x) (hT : TOk n S) (hn : NmI S.fs) : NmI (S1.addD x).fs := by
  have hb : TOk n (S.bod bs n) := TOk.adv hl (TOk.adv hl (TOk.adv hl hT))
  have key : ∀ (S4 : PS) (x : DN), S4.fs.decls = S.fs.decls → (∀ y ∈ S4.fs.fields, Idn y.name) → Idn x.name → NmI ((S4.adv bs n).addD x).fs := fun S4 x hd hf hx => ⟨fun y hy => by
    have hy : y ∈ S4.fs.decls ++ [x] := hy
    rw [hd] at hy
    rcases List.mem_append.1 hy with h | h
    · exact hn.d y h
    · simp at h; subst h; exact hx, hf⟩
  cases h with
  | @con S4 r h1 h2 h3 hp h4 =>
    obtain ⟨a1, a2, a3, a4⟩ := (Prs.wf hl hp) 0 0 hb (Nat.zero_le _) (Nat.zero_le _) trivial
    have a1 : ExtF n 0 0 S.fs S4.fs := a1
    exact key S4 _ a1.dc (by rw [a1.fd]; exact hn.f) (adv_idn hl h2)
  | @ali S4 r h1 h2 h3 hp h4 =>
    obtain ⟨a1, a2, a3, a4⟩ := (Prs.wf hl hp) 0 0 hb (Nat.zero_le _) (Nat.zero_le _) trivial
    have a1 : ExtF n 0 0 S.fs S4.fs := a1
    exact key S4 _ a1.dc (by rw [a1.fd]; exact hn.f) (adv_idn hl h2)
  | @cnt S4 h1 h2 h3 hp h4 =>
    obtain ⟨b1, b2⟩ := Flds.idn hl hp ⟨_, _, rfl⟩ hb hn.f
    exact key S4 _ b2 b1 (adv_idn hl h2)
theorem FileOk.idn (hl : bs.length = n) {S S' : PS} (h : FileOk bs n S S') : TOk n S → FWf n S.fs → NmI S.fs → NmI S'.fs := by
  induction h with
  | nil => intro _ _ h3; exact h3
  | cons _ hd _ ih =>
    intro h1 h2 h3
    obtain ⟨a, b⟩ := hd.wf hl h1 h2
    exact ih b a (hd.idn hl h1 h3)
theorem first_idn (hl : bs.length = n) {S : PS} (h : FileOk bs n (PS.first bs n) S) : NmI S.fs := by
  have h0 := nextT_ok hl (Nat.zero_le n) (k := 0)
  exact h.idn hl ⟨h0, h0.en⟩ ⟨fun x hx => (by cases hx), fun i hi => absurd hi (Nat.not_lt_zero _), fun i hi => absurd hi (Nat.not_lt_zero _), fun y hy => (by cases hy)⟩ ⟨fun x hx => (by cases hx), fun x hx => (by cases hx)⟩
end
end Go.Proofs.Qxb6500883aGreatDoor
