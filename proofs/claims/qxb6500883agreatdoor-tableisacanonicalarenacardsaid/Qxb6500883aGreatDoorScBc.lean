/- The file that Parse makes is well formed. No Go here. -/
import Derived.Test.Qxb6500883aGreatDoorScBb
namespace Go.Proofs.Qxb6500883aGreatDoor
open Go.RowKit
set_option linter.unusedSimpArgs false
set_option linter.unusedVariables false
/-- A declaration of a file. -/
structure DWf (n : Nat) (F : FS) (x : DN) : Prop where
  pos : x.pos ≤ n
  sort : x.sort ≤ 2
  nm : x.name.size ≤ n
  t : x.tLo ≤ x.tHi ∧ x.tHi ≤ F.types.length
  e : x.eLo ≤ x.eHi ∧ x.eHi ≤ F.exprs.length
  f : x.fLo ≤ x.fHi ∧ x.fHi ≤ F.fields.length
  con : x.sort = 0 → ∃ a : Nat, x.expr = (a : Int) ∧ x.eLo ≤ a ∧ a < x.eHi
  ali : x.sort = 1 → ∃ a : Nat, x.typ = (a : Int) ∧ x.tLo ≤ a ∧ a < x.tHi
  cnt : x.sort = 2 → ∀ j y, x.fLo ≤ j → j < x.fHi → F.fields[j]? = some y → x.tLo ≤ y.typ ∧ y.typ < x.tHi
  tw : ∀ i y, x.tLo ≤ i → i < x.tHi → F.types[i]? = some y → TWf n x.tLo x.eLo x.eHi i F.opts y
  ew : ∀ i y, x.eLo ≤ i → i < x.eHi → F.exprs[i]? = some y → EWf n x.eLo i y
theorem DWf.mono {n : Nat} {F F' : FS} {x : DN} (h : DWf n F x) (ht : ∃ l, F'.types = F.types ++ l) (he : ∃ l, F'.exprs = F.exprs ++ l) (hf : ∃ l, F'.fields = F.fields ++ l) (ho : ∃ l, F'.opts = F.opts ++ l) : DWf n F' x := by
  obtain ⟨l1, e1⟩ := ht
  obtain ⟨l2, e2⟩ := he
  obtain ⟨l3, e3⟩ := hf
  obtain ⟨l4, e4⟩ := ho
  have t1 := h.t
  have t2 := h.e
  have t3 := h.f
  refine ⟨h.pos, h.sort, h.nm, ⟨t1.1, by rw [e1, List.length_append]; omega⟩, ⟨t2.1, by rw [e2, List.length_append]; omega⟩, ⟨t3.1, by rw [e3, List.length_append]; omega⟩, h.con, h.ali, fun hs j y h1 h2 h3 => h.cnt hs j y h1 h2 ?_, fun i y h1 h2 h3 => ?_, fun i y h1 h2 h3 => h.ew i y h1 h2 ?_⟩
  · rw [e3, List.getElem?_append_left (by omega)] at h3; exact h3
  · rw [e1, List.getElem?_append_left (by omega)] at h3
    rw [e4]
    exact (h.tw i y h1 h2 h3).mono (Nat.le_refl _)
  · rw [e2, List.getElem?_append_left (by omega)] at h3; exact h3
/-- A file. -/
structure FWf (n : Nat) (F : FS) : Prop where
  d : ∀ x ∈ F.decls, DWf n F x
  tc : ∀ i, i < F.types.length → ∃ x ∈ F.decls, x.tLo ≤ i ∧ i < x.tHi
  ec : ∀ i, i < F.exprs.length → ∃ x ∈ F.decls, x.eLo ≤ i ∧ i < x.eHi
  fp : ∀ y ∈ F.fields, y.pos ≤ n ∧ y.name.size ≤ n
section
variable {bs : List UInt8} {n : Nat}
theorem Flds.wf (hl : bs.length = n) {A B : PS} (h : Flds bs n A B) : ∀ bt be, TOk n A → bt ≤ A.fs.types.length → be ≤ A.fs.exprs.length →
    ∃ l : List FN, B.fs.fields = A.fs.fields ++ l ∧ (∀ y ∈ l, (y.pos ≤ n ∧ y.name.size ≤ n) ∧ bt ≤ y.typ ∧ y.typ < B.fs.types.length) ∧ ExtF n bt be A.fs { B.fs with fields := A.fs.fields } ∧ TOk n B := by
  induction h with
  | @nil S => intro bt be hT h1 h2; exact ⟨[], by simp, fun y hy => (by cases hy), ExtF.refl _ _ _ _, hT⟩
  | @cons S S1 r S' hk h8 hp h7 _ ih =>
    intro bt be hT h1 h2
    obtain ⟨a1, a2, a3, a4⟩ := (Prs.wf hl hp) bt be (TOk.adv hl (TOk.adv hl hT)) h1 h2 trivial
    have a1 : ExtF n bt be S.fs S1.fs := a1
    have hle := a1.lenT
    obtain ⟨l, b1, b2, b3, b4⟩ := ih bt be ⟨(TOk.adv hl a2).tk, (TOk.adv hl a2).hp⟩ (by show bt ≤ S1.fs.types.length; omega) (by show be ≤ S1.fs.exprs.length; omega)
    have b3 : ExtF n bt be (S1.fs.addF ⟨S.word bs, S.tok.pos, r⟩) { S'.fs with fields := (S1.fs.addF ⟨S.word bs, S.tok.pos, r⟩).fields } := b3
    have hlt : S1.fs.types.length ≤ S'.fs.types.length := b3.lenT.1
    refine ⟨⟨S.word bs, S.tok.pos, r⟩ :: l, ?_, fun y hy => ?_, ?_, b4⟩
    · have b1 : S'.fs.fields = (S1.fs.fields ++ [⟨S.word bs, S.tok.pos, r⟩]) ++ l := b1
      rw [b1, a1.fd, List.append_assoc]
      rfl
    · rcases List.mem_cons.1 hy with h | h
      · subst h; exact ⟨⟨hT.tk.pn, word_le hl hT⟩, a3, by show r < _; omega⟩
      · exact b2 y h
    · refine ExtF.trans a1 ⟨b3.t, b3.e, b3.o, b3.tw, b3.ew, a1.fd.symm, b3.dc⟩
theorem DclOk.wf (hl : bs.length = n) {S S1 : PS} {x : DN} (h : DclOk bs n S S1 x) (hT : TOk n S) (hF : FWf n S.fs) : FWf n (S1.addD x).fs ∧ TOk n (S1.addD x) := by
  have hb : TOk n (S.bod bs n) := TOk.adv hl (TOk.adv hl (TOk.adv hl hT))
  -- a general finish
  have key : ∀ (S4 : PS) (l : List FN) (x : DN), ExtF n S.fs.types.length S.fs.exprs.length S.fs { S4.fs with fields := S.fs.fields } → S4.fs.fields = S.fs.fields ++ l → (∀ y ∈ l, (y.pos ≤ n ∧ y.name.size ≤ n) ∧ S.fs.types.length ≤ y.typ ∧ y.typ < S4.fs.types.length) → S4.fs.decls = S.fs.decls → TOk n S4 →
      x.pos ≤ n → x.name.size ≤ n → x.sort ≤ 2 → x.tLo = S.fs.types.length → x.tHi = S4.fs.types.length → x.eLo = S.fs.exprs.length → x.eHi = S4.fs.exprs.length → x.fLo ≤ x.fHi → x.fHi ≤ S4.fs.fields.length → (x.sort = 0 → ∃ a : Nat, x.expr = (a : Int) ∧ x.eLo ≤ a ∧ a < x.eHi) → (x.sort = 1 → ∃ a : Nat, x.typ = (a : Int) ∧ x.tLo ≤ a ∧ a < x.tHi) → (x.sort = 2 → x.fLo = S.fs.fields.length) →
      FWf n ((S4.adv bs n).addD x).fs ∧ TOk n ((S4.adv bs n).addD x) := by
    intro S4 l x hE hfl hfw hdc hT4 hp hnm hs t1 t2 e1 e2 f1 f2 hc ha hcn
    obtain ⟨lt, et⟩ := hE.t
    obtain ⟨le, ee⟩ := hE.e
    obtain ⟨lo, eo⟩ := hE.o
    have et : S4.fs.types = S.fs.types ++ lt := et
    have ee : S4.fs.exprs = S.fs.exprs ++ le := ee
    have eo : S4.fs.opts = S.fs.opts ++ lo := eo
    have hfs : ((S4.adv bs n).addD x).fs = { S4.fs with decls := S4.fs.decls ++ [x] } := rfl
    have hlt : S.fs.types.length ≤ S4.fs.types.length := hE.lenT.1
    have hle : S.fs.exprs.length ≤ S4.fs.exprs.length := hE.lenT.2.1
    refine ⟨?_, ⟨(TOk.adv hl hT4).tk, (TOk.adv hl hT4).hp⟩⟩
    rw [hfs]
    refine ⟨fun y hy => ?_, fun i hi => ?_, fun i hi => ?_, fun y hy => ?_⟩
    · have hy : y ∈ S4.fs.decls ++ [x] := hy
      rcases List.mem_append.1 hy with h | h
      · rw [hdc] at h
        exact (hF.d y h).mono ⟨lt, et⟩ ⟨le, ee⟩ ⟨l, hfl⟩ ⟨lo, eo⟩
      · simp at h
        subst h
        refine ⟨hp, hs, hnm, ⟨by omega, by show y.tHi ≤ S4.fs.types.length; omega⟩, ⟨by omega, by show y.eHi ≤ S4.fs.exprs.length; omega⟩, ⟨f1, f2⟩, hc, ha, fun h2 j z h3 h4 h5 => ?_, fun i z h3 h4 h5 => ?_, fun i z h3 h4 h5 => ?_⟩
        · have h5 : S4.fs.fields[j]? = some z := h5
          have := hcn h2
          rw [hfl, List.getElem?_append_right (by omega)] at h5
          have := hfw z (List.mem_of_getElem? h5)
          omega
        · have := hE.tw i z (by omega) h5
          rw [t1, e1, e2]
          exact this
        · have := hE.ew i z (by omega) h5
          rw [e1]
          exact this
    · have hi : i < S4.fs.types.length := hi
      by_cases hq : i < S.fs.types.length
      · obtain ⟨y, h1, h2⟩ := hF.tc i hq
        exact ⟨y, by show y ∈ S4.fs.decls ++ [x]; rw [hdc]; exact List.mem_append_left _ h1, h2⟩
      · exact ⟨x, by show x ∈ S4.fs.decls ++ [x]; simp, by omega, by omega⟩
    · have hi : i < S4.fs.exprs.length := hi
      by_cases hq : i < S.fs.exprs.length
      · obtain ⟨y, h1, h2⟩ := hF.ec i hq
        exact ⟨y, by show y ∈ S4.fs.decls ++ [x]; rw [hdc]; exact List.mem_append_left _ h1, h2⟩
      · exact ⟨x, by show x ∈ S4.fs.decls ++ [x]; simp, by omega, by omega⟩
    · have hy : y ∈ S4.fs.fields := hy
      rw [hfl] at hy
      rcases List.mem_append.1 hy with h | h
      · exact hF.fp y h
      · exact (hfw y h).1
  cases h with
  | @con S4 r h1 h2 h3 hp h4 =>
    obtain ⟨a1, a2, a3, a4⟩ := (Prs.wf hl hp) S.fs.types.length S.fs.exprs.length hb (Nat.le_refl _) (Nat.le_refl _) trivial
    have a1 : ExtF n S.fs.types.length S.fs.exprs.length S.fs S4.fs := a1
    exact key S4 [] _ ⟨a1.t, a1.e, a1.o, a1.tw, a1.ew, rfl, a1.dc⟩ (by rw [a1.fd]; simp) (fun y hy => (by cases hy)) a1.dc a2 (TOk.adv hl hT).tk.pn (word_le hl (TOk.adv hl hT)) (by show 0 ≤ 2; decide) rfl rfl rfl rfl (Nat.le_refl _) (Nat.zero_le _) (fun _ => ⟨r, rfl, a3, a4⟩) (fun h => by simp at h) (fun h => by simp at h)
  | @ali S4 r h1 h2 h3 hp h4 =>
    obtain ⟨a1, a2, a3, a4⟩ := (Prs.wf hl hp) S.fs.types.length S.fs.exprs.length hb (Nat.le_refl _) (Nat.le_refl _) trivial
    have a1 : ExtF n S.fs.types.length S.fs.exprs.length S.fs S4.fs := a1
    exact key S4 [] _ ⟨a1.t, a1.e, a1.o, a1.tw, a1.ew, rfl, a1.dc⟩ (by rw [a1.fd]; simp) (fun y hy => (by cases hy)) a1.dc a2 (TOk.adv hl hT).tk.pn (word_le hl (TOk.adv hl hT)) (by show 1 ≤ 2; decide) rfl rfl rfl rfl (Nat.le_refl _) (Nat.zero_le _) (fun h => by simp at h) (fun _ => ⟨r, rfl, a3, a4⟩) (fun h => by simp at h)
  | @cnt S4 h1 h2 h3 hp h4 =>
    obtain ⟨l, a1, a2, a3, a4⟩ := Flds.wf hl hp S.fs.types.length S.fs.exprs.length hb (Nat.le_refl _) (Nat.le_refl _)
    have a1 : S4.fs.fields = S.fs.fields ++ l := a1
    have hlen : S.fs.fields.length ≤ S4.fs.fields.length := by rw [a1, List.length_append]; omega
    exact key S4 l _ a3 a1 a2 a3.dc a4 (TOk.adv hl hT).tk.pn (word_le hl (TOk.adv hl hT)) (by show 2 ≤ 2; decide) rfl rfl rfl rfl hlen (Nat.le_refl _) (fun h => by simp at h) (fun h => by simp at h) (fun _ => rfl)
theorem FileOk.wf (hl : bs.length = n) {S S' : PS} (h : FileOk bs n S S') : TOk n S → FWf n S.fs → FWf n S'.fs ∧ TOk n S' := by
  induction h with
  | nil => intro h1 h2; exact ⟨h2, h1⟩
  | cons _ hd _ ih =>
    intro h1 h2
    obtain ⟨a, b⟩ := hd.wf hl h1 h2
    exact ih b a
theorem first_wf (hl : bs.length = n) {S : PS} (h : FileOk bs n (PS.first bs n) S) : FWf n S.fs := by
  have h0 := nextT_ok hl (Nat.zero_le n) (k := 0)
  refine (h.wf hl ⟨h0, h0.en⟩ ⟨fun x hx => (by cases hx), fun i hi => absurd hi (Nat.not_lt_zero _), fun i hi => absurd hi (Nat.not_lt_zero _), fun y hy => (by cases hy)⟩).1
end
end Go.Proofs.Qxb6500883aGreatDoor
