/- Every parse keeps the nodes well formed. No Go here. -/
import Derived.Test.Qxb6500883aGreatDoorScBa
namespace Go.Proofs.Qxb6500883aGreatDoor
open Go.RowKit
set_option linter.unusedSimpArgs false
set_option linter.unusedVariables false
section
variable {bs : List UInt8} {n : Nat}
theorem Prs.wf (hl : bs.length = n) {nt : Nt} {S : PS} {o : Out} (h : Prs bs n nt S o) : OutW n nt S o := by
  induction h with
  | @num S hk =>
    intro bt be hT h1 h2 _
    exact ⟨(ExtF.refl _ _ _ _).addE ⟨hT.tk.pn, hT.tk.v, by show 0 ≤ 6; decide, Nat.zero_le _, fun h => absurd h (show ¬ (2 ≤ (0 : Nat)) by decide)⟩, ⟨(TOk.adv hl hT).tk, (TOk.adv hl hT).hp⟩, h2, by show S.fs.exprs.length < (S.fs.exprs ++ [_]).length; simp⟩
  | @name S hk =>
    intro bt be hT h1 h2 _
    exact ⟨(ExtF.refl _ _ _ _).addE ⟨hT.tk.pn, show 0 < _ by decide, by show 1 ≤ 6; decide, word_le hl hT, fun h => absurd h (show ¬ (2 ≤ (1 : Nat)) by decide)⟩, ⟨(TOk.adv hl hT).tk, (TOk.adv hl hT).hp⟩, h2, by show S.fs.exprs.length < (S.fs.exprs ++ [_]).length; simp⟩
  | badnum _ => intro bt be hT _ _ _; exact hT.tk.bn
  | deep _ _ => intro bt be hT _ _ _; exact hT.tk.pn
  | @paren S o hk hd hp ih =>
    intro bt be hT h1 h2 _
    have := ih bt be (TOk.opn hl hT) h1 h2 trivial
    cases o with
    | bad k => exact this
    | oks S1 rs => exact False.elim hp.mv
    | ok S1 r =>
      obtain ⟨e1, e2, e3, e4⟩ := this
      show match Nt.atom, (if S1.tok.kind = 15 then Out.ok (S1.sht bs n) r else Out.bad S1.unx) with | .typ, .ok S' r => _ | _, .ok S' r => _ | _, .oks S' rs => _ | _, .bad k => _
      by_cases hq : S1.tok.kind = 15
      · rw [if_pos hq]; exact ⟨e1, TOk.sht hl e2, e3, e4⟩
      · rw [if_neg hq]; exact unx_le e2
  | atomN _ _ _ _ => intro bt be hT _ _ _; exact unx_le hT
  | powB _ ih => intro bt be hT h1 h2 h3; exact ih bt be hT h1 h2 h3
  | pow1 _ _ ih => intro bt be hT h1 h2 h3; exact ih bt be hT h1 h2 h3
  | @pow2 S S1 r S2 r2 _ _ _ ih1 ih2 =>
    intro bt be hT h1 h2 h3
    obtain ⟨a1, a2, a3, a4⟩ := ih1 bt be hT h1 h2 trivial
    have hle := a1.lenT
    obtain ⟨b1, b2, b3, b4⟩ := ih2 bt be (TOk.adv hl a2) (by show bt ≤ S1.fs.types.length; omega) (by show be ≤ S1.fs.exprs.length; omega) trivial
    have hle2 : S1.fs.exprs.length ≤ S2.fs.exprs.length := b1.lenT.2.1
    refine ⟨(a1.trans b1).addE (enB_wf (by decide) a2.tk.pn ⟨a3, by omega⟩ ⟨b3, b4⟩), ⟨b2.tk, b2.hp⟩, by omega, by show S2.fs.exprs.length < (S2.fs.exprs ++ [_]).length; simp⟩
  | @pow2B S S1 r k _ _ _ ih1 ih2 =>
    intro bt be hT h1 h2 h3
    obtain ⟨a1, a2, a3, a4⟩ := ih1 bt be hT h1 h2 trivial
    have hle := a1.lenT
    exact ih2 bt be (TOk.adv hl a2) (by show bt ≤ S1.fs.types.length; omega) (by show be ≤ S1.fs.exprs.length; omega) trivial
  | termB _ ih => intro bt be hT h1 h2 h3; exact ih bt be hT h1 h2 h3
  | @term S S1 r o _ hp ih1 ih2 =>
    intro bt be hT h1 h2 h3
    obtain ⟨a1, a2, a3, a4⟩ := ih1 bt be hT h1 h2 trivial
    have hle := a1.lenT
    have := ih2 bt be a2 (by omega) (by omega) ⟨a3, a4⟩
    cases o with
    | bad k => exact this
    | oks S2 rs => exact False.elim hp.mv
    | ok S2 r2 =>
      obtain ⟨b1, b2, b3, b4⟩ := this
      exact ⟨a1.trans b1, b2, b3, b4⟩
  | @tE S r _ _ => intro bt be hT h1 h2 h3; exact ⟨ExtF.refl _ _ _ _, hT, h3.1, h3.2⟩
  | @tB S r k _ _ ih => intro bt be hT h1 h2 h3; exact ih bt be (TOk.adv hl hT) h1 h2 trivial
  | @tS S r S1 r1 o hk _ hp ih1 ih2 =>
    intro bt be hT h1 h2 h3
    obtain ⟨a1, a2, a3, a4⟩ := ih1 bt be (TOk.adv hl hT) h1 h2 trivial
    have hle := a1.lenT
    have hle1 : S.fs.types.length ≤ S1.fs.types.length := hle.1
    have hle2 : S.fs.exprs.length ≤ S1.fs.exprs.length := hle.2.1
    obtain ⟨h3a, h3b⟩ := h3
    have hx : EWf n be S1.fs.exprs.length (enB (if S.tok.kind = 19 then 5 else 4) S.tok.pos (r : Int) (r1 : Int)) := enB_wf (by split <;> decide) hT.tk.pn ⟨h3a, by omega⟩ ⟨a3, a4⟩
    have hE : ExtF n bt be S.fs (S1.addE (enB (if S.tok.kind = 19 then 5 else 4) S.tok.pos (r : Int) (r1 : Int))).fs := a1.addE hx
    have hlE : (S1.addE (enB (if S.tok.kind = 19 then 5 else 4) S.tok.pos (r : Int) (r1 : Int))).fs.exprs.length = S1.fs.exprs.length + 1 := by show (S1.fs.exprs ++ [_]).length = _; simp
    have := ih2 bt be ⟨a2.tk, a2.hp⟩ (by show bt ≤ S1.fs.types.length; omega) (by rw [hlE]; omega) ⟨by omega, by rw [hlE]; omega⟩
    cases o with
    | bad k => exact this
    | oks S2 rs => exact False.elim hp.mv
    | ok S2 r2 =>
      obtain ⟨b1, b2, b3, b4⟩ := this
      exact ⟨hE.trans b1, b2, b3, b4⟩
  | exprB _ ih => intro bt be hT h1 h2 h3; exact ih bt be hT h1 h2 h3
  | @expr S S1 r o _ hp ih1 ih2 =>
    intro bt be hT h1 h2 h3
    obtain ⟨a1, a2, a3, a4⟩ := ih1 bt be hT h1 h2 trivial
    have hle := a1.lenT
    have := ih2 bt be a2 (by omega) (by omega) ⟨a3, a4⟩
    cases o with
    | bad k => exact this
    | oks S2 rs => exact False.elim hp.mv
    | ok S2 r2 =>
      obtain ⟨b1, b2, b3, b4⟩ := this
      exact ⟨a1.trans b1, b2, b3, b4⟩
  | @eE S r _ _ => intro bt be hT h1 h2 h3; exact ⟨ExtF.refl _ _ _ _, hT, h3.1, h3.2⟩
  | @eB S r k _ _ ih => intro bt be hT h1 h2 h3; exact ih bt be (TOk.adv hl hT) h1 h2 trivial
  | @eS S r S1 r1 o hk _ hp ih1 ih2 =>
    intro bt be hT h1 h2 h3
    obtain ⟨a1, a2, a3, a4⟩ := ih1 bt be (TOk.adv hl hT) h1 h2 trivial
    have hle := a1.lenT
    have hle1 : S.fs.types.length ≤ S1.fs.types.length := hle.1
    have hle2 : S.fs.exprs.length ≤ S1.fs.exprs.length := hle.2.1
    obtain ⟨h3a, h3b⟩ := h3
    have hx : EWf n be S1.fs.exprs.length (enB (if S.tok.kind = 17 then 3 else 2) S.tok.pos (r : Int) (r1 : Int)) := enB_wf (by split <;> decide) hT.tk.pn ⟨h3a, by omega⟩ ⟨a3, a4⟩
    have hE : ExtF n bt be S.fs (S1.addE (enB (if S.tok.kind = 17 then 3 else 2) S.tok.pos (r : Int) (r1 : Int))).fs := a1.addE hx
    have hlE : (S1.addE (enB (if S.tok.kind = 17 then 3 else 2) S.tok.pos (r : Int) (r1 : Int))).fs.exprs.length = S1.fs.exprs.length + 1 := by show (S1.fs.exprs ++ [_]).length = _; simp
    have := ih2 bt be ⟨a2.tk, a2.hp⟩ (by show bt ≤ S1.fs.types.length; omega) (by rw [hlE]; omega) ⟨by omega, by rw [hlE]; omega⟩
    cases o with
    | bad k => exact this
    | oks S2 rs => exact False.elim hp.mv
    | ok S2 r2 =>
      obtain ⟨b1, b2, b3, b4⟩ := this
      exact ⟨hE.trans b1, b2, b3, b4⟩
  | @basic S id hk =>
    intro bt be hT h1 h2 _
    exact ⟨(ExtF.refl _ _ _ _).addT (tnL_wf hT.tk.pn (by decide) (Nat.zero_le _) (fun _ => basicK_rng hk)), ⟨(TOk.adv hl hT).tk, (TOk.adv hl hT).hp⟩, h1, by show S.fs.types.length < (S.fs.types ++ [_]).length; simp⟩
  | @none S hk =>
    intro bt be hT h1 h2 _
    exact ⟨(ExtF.refl _ _ _ _).addT (tnL_wf hT.tk.pn (by decide) (Nat.zero_le _) (fun h => absurd h (by decide))), ⟨(TOk.adv hl hT).tk, (TOk.adv hl hT).hp⟩, h1, by show S.fs.types.length < (S.fs.types ++ [_]).length; simp⟩
  | @tname S hk =>
    intro bt be hT h1 h2 _
    exact ⟨(ExtF.refl _ _ _ _).addT (tnL_wf hT.tk.pn (by decide) (word_le hl hT) (fun h => absurd h (by decide))), ⟨(TOk.adv hl hT).tk, (TOk.adv hl hT).hp⟩, h1, by show S.fs.types.length < (S.fs.types ++ [_]).length; simp⟩
  | brk _ _ _ => intro bt be hT _ _ _; exact unx_le (TOk.adv hl hT)
  | brkD _ _ _ _ => intro bt be hT _ _ _; exact (TOk.adv hl hT).tk.pn
  | @vecB S k _ _ _ _ ih => intro bt be hT h1 h2 _; exact ih bt be (TOk.opn hl (TOk.adv hl hT)) h1 h2 trivial
  | @vecC S S1 r _ _ _ _ _ ih => intro bt be hT h1 h2 _; exact unx_le (ih bt be (TOk.opn hl (TOk.adv hl hT)) h1 h2 trivial).2.1
  | @vec S S1 r o _ _ _ _ _ hp ih1 ih2 =>
    intro bt be hT h1 h2 _
    obtain ⟨a1, a2, a3, a4⟩ := ih1 bt be (TOk.opn hl (TOk.adv hl hT)) h1 h2 trivial
    have hle : S.fs.types.length ≤ S1.fs.types.length ∧ S.fs.exprs.length ≤ S1.fs.exprs.length ∧ _ := a1.lenT
    have := ih2 bt be (TOk.adv hl a2) (by show bt ≤ S1.fs.types.length; omega) (by show be ≤ S1.fs.exprs.length; omega) trivial
    cases o with
    | bad k => exact this
    | oks S2 rs => exact False.elim hp.mv
    | ok S2 r2 =>
      obtain ⟨b1, b2, b3, b4⟩ := this
      have hle2 : S1.fs.types.length ≤ S2.fs.types.length := b1.lenT.1
      have hE : ExtF n bt be S.fs S2.fs := ExtF.trans (F' := S1.fs) a1 b1
      show match Nt.typ, Out.tyE _ _ _ (if S2.tok.kind = 11 then Out.ok (S2.sht bs n) r2 else Out.bad S2.unx) with | .typ, .ok S' r => _ | _, .ok S' r => _ | _, .oks S' rs => _ | _, .bad k => _
      by_cases hq : S2.tok.kind = 11
      · rw [if_pos hq]
        refine ⟨hE.addT ⟨hT.tk.pn, by show (if S.tok.kind = 25 then 4 else 3) ≤ 7; split <;> decide, Nat.zero_le _, fun h => ?_, fun _ => ⟨r, rfl, a3, by omega⟩, fun _ _ => ⟨r2, rfl, b3, b4⟩, fun h => ?_⟩, ⟨(TOk.sht hl b2).tk, (TOk.sht hl b2).hp⟩, by show bt ≤ S2.fs.types.length; omega, by show S2.fs.types.length < (S2.fs.types ++ [_]).length; simp⟩
        · have h : (if S.tok.kind = 25 then 4 else 3) = 0 := h
          split at h <;> cases h
        · have h : (if S.tok.kind = 25 then 4 else 3) = 7 := h
          split at h <;> cases h
      · rw [if_neg hq]; exact unx_le b2
  | @bits S o _ _ _ hp ih =>
    intro bt be hT h1 h2 _
    have := ih bt be (TOk.opn hl (TOk.adv hl hT)) h1 h2 trivial
    cases o with
    | bad k => exact this
    | oks S2 rs => exact False.elim hp.mv
    | ok S2 r2 =>
      obtain ⟨b1, b2, b3, b4⟩ := this
      have hle2 : S.fs.types.length ≤ S2.fs.types.length := b1.lenT.1
      have hE : ExtF n bt be S.fs S2.fs := b1
      show match Nt.typ, Out.tyE _ _ _ (if S2.tok.kind = 11 then Out.ok (S2.sht bs n) r2 else Out.bad S2.unx) with | .typ, .ok S' r => _ | _, .ok S' r => _ | _, .oks S' rs => _ | _, .bad k => _
      by_cases hq : S2.tok.kind = 11
      · rw [if_pos hq]
        refine ⟨hE.addT ⟨hT.tk.pn, by show (if S.tok.kind = 27 then 6 else 5) ≤ 7; split <;> decide, Nat.zero_le _, fun h => ?_, fun h => ?_, fun _ _ => ⟨r2, rfl, b3, b4⟩, fun h => ?_⟩, ⟨(TOk.sht hl b2).tk, (TOk.sht hl b2).hp⟩, by show bt ≤ S2.fs.types.length; omega, by show S2.fs.types.length < (S2.fs.types ++ [_]).length; simp⟩
        · have h : (if S.tok.kind = 27 then 6 else 5) = 0 := h
          split at h <;> cases h
        · have h : (if S.tok.kind = 27 then 6 else 5) = 3 ∨ (if S.tok.kind = 27 then 6 else 5) = 4 := h
          exfalso
          split at h <;> omega
        · have h : (if S.tok.kind = 27 then 6 else 5) = 7 := h
          split at h <;> cases h
      · rw [if_neg hq]; exact unx_le b2
  | @uniE S _ _ _ h =>
    intro bt be hT h1 h2 _
    have hO := TOk.opn hl (TOk.adv hl hT)
    unfold PS.uni
    rw [if_pos h]
    refine ⟨((ExtF.refl n bt be S.fs).addO (rs := [])).addT ⟨hT.tk.pn, by show 7 ≤ 7; decide, Nat.zero_le _, fun h => absurd h (show ¬ ((7 : Nat) = 0) by decide), fun h => absurd h (show ¬ ((7 : Nat) = 3 ∨ (7 : Nat) = 4) by decide), fun h h2 => absurd h2 (show ¬ ((7 : Nat) ≤ 6) by decide), fun _ => ⟨Nat.le_add_right _ _, ?_, fun j r a b _ => ?_⟩⟩, ⟨(TOk.sht hl hO).tk, (TOk.sht hl hO).hp⟩, h1, by show S.fs.types.length < (S.fs.types ++ [_]).length; simp⟩
    · show S.fs.opts.length + 0 ≤ (S.fs.opts ++ []).length; simp
    · exfalso
      have a : S.fs.opts.length ≤ j := a
      have b : j < S.fs.opts.length + 0 := b
      omega
  | @uni S o _ _ _ _ hp ih =>
    intro bt be hT h1 h2 _
    have := ih bt be (TOk.opn hl (TOk.adv hl hT)) h1 h2 (fun x hx => by cases hx)
    cases o with
    | bad k => exact this
    | ok S2 r => exact False.elim hp.mv
    | oks S2 rs =>
      obtain ⟨b1, b2, b3⟩ := this
      have hle2 : S.fs.types.length ≤ S2.fs.types.length := b1.lenT.1
      have hE : ExtF n bt be S.fs S2.fs := b1
      show match Nt.typ, S2.uni bs n S.tok.pos rs with | .typ, .ok S' r => _ | _, .ok S' r => _ | _, .oks S' rs => _ | _, .bad k => _
      unfold PS.uni
      by_cases hq : S2.tok.kind = 11
      · rw [if_pos hq]
        refine ⟨(hE.addO (rs := rs)).addT ⟨hT.tk.pn, by show 7 ≤ 7; decide, Nat.zero_le _, fun h => absurd h (show ¬ ((7 : Nat) = 0) by decide), fun h => absurd h (show ¬ ((7 : Nat) = 3 ∨ (7 : Nat) = 4) by decide), fun h h2 => absurd h2 (show ¬ ((7 : Nat) ≤ 6) by decide), fun _ => ⟨Nat.le_add_right _ _, ?_, fun j r a b c => ?_⟩⟩, ⟨(TOk.sht hl b2).tk, (TOk.sht hl b2).hp⟩, by show bt ≤ S2.fs.types.length; omega, by show S2.fs.types.length < (S2.fs.types ++ [_]).length; simp⟩
        · show S2.fs.opts.length + rs.length ≤ (S2.fs.opts ++ rs).length; simp
        · have a : S2.fs.opts.length ≤ j := a
          have c : (S2.fs.opts ++ rs)[j]? = some r := c
          rw [List.getElem?_append_right a] at c
          exact b3 r (List.mem_of_getElem? c)
      · rw [if_neg hq]; exact unx_le b2
  | typN _ _ => intro bt be hT _ _ _; exact unx_le hT
  | oB _ ih => intro bt be hT h1 h2 h3; exact ih bt be hT h1 h2 trivial
  | @oE S acc S1 r _ _ ih =>
    intro bt be hT h1 h2 h3
    obtain ⟨a1, a2, a3, a4⟩ := ih bt be hT h1 h2 trivial
    refine ⟨a1, a2, fun x hx => ?_⟩
    rcases List.mem_append.1 hx with h | h
    · have := h3 x h
      have := a1.lenT.1
      omega
    · simp at h; subst h; exact ⟨a3, a4⟩
  | @oS S acc S1 r o _ _ hp ih1 ih2 =>
    intro bt be hT h1 h2 h3
    obtain ⟨a1, a2, a3, a4⟩ := ih1 bt be hT h1 h2 trivial
    have hle := a1.lenT
    have := ih2 bt be (TOk.adv hl a2) (by show bt ≤ S1.fs.types.length; omega) (by show be ≤ S1.fs.exprs.length; omega) (fun x hx => by
      rcases List.mem_append.1 hx with h | h
      · have := h3 x h
        show bt ≤ x ∧ x < S1.fs.types.length
        omega
      · simp at h; subst h; exact ⟨a3, a4⟩)
    cases o with
    | bad k => exact this
    | ok S2 r => exact False.elim hp.mv
    | oks S2 rs =>
      obtain ⟨b1, b2, b3⟩ := this
      exact ⟨ExtF.trans (F' := S1.fs) a1 b1, b2, b3⟩
end
end Go.Proofs.Qxb6500883aGreatDoor
