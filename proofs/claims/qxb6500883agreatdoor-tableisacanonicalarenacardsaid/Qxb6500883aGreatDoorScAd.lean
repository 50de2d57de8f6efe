/- basicOf; local blocks beside the parser (written by tools/mk_scad.py). -/
import Derived.Test.Qxb6500883aGreatDoorScAc
namespace Go.Proofs.Qxb6500883aGreatDoor
open Go.RowKit
set_option linter.unusedSimpArgs false
set_option linter.unusedVariables false
def baV (k : Nat) : Value := .tuple #[.int .i32 (match basicK k with | some i => (i : Int) | none => -1), .bool (basicK k).isSome]
set_option maxRecDepth 100000 in
theorem basicOfW (k : Nat) (hk : k < 38) (w : World) : Calls Tryz.prog 135 #[.int .u8 (k : Int)] w fun e w' => e = .returned (baV k) ∧ w' = w := by
  by_cases h : 30 ≤ k
  · rcases (by omega : k = 30 ∨ k = 31 ∨ k = 32 ∨ k = 33 ∨ k = 34 ∨ k = 35 ∨ k = 36 ∨ k = 37) with rfl | rfl | rfl | rfl | rfl | rfl | rfl | rfl <;>
      (go_enter Tryz.func135, Tryz.ntmps135
       go_wp2
       go_ret2
       exact ⟨rfl, rfl⟩)
  · have HV : Hid (baV k = .tuple #[.int .i32 (-1), .bool false]) := hid (by
      have : basicK k = none := by unfold basicK; rw [if_neg (by omega), if_neg (by omega), if_neg (by omega)]
      unfold baV
      rw [this]
      rfl)
    obtain ⟨v, hv⟩ : ∃ v, baV k = v := ⟨_, rfl⟩
    rw [hv] at HV
    rw [hv]
    clear hv
    have q30 : ((k : Int) == 30) = false := by simp; omega
    have q31 : ((k : Int) == 31) = false := by simp; omega
    have q32 : ((k : Int) == 32) = false := by simp; omega
    have q33 : ((k : Int) == 33) = false := by simp; omega
    have q34 : ((k : Int) == 34) = false := by simp; omega
    have q35 : ((k : Int) == 35) = false := by simp; omega
    have q36 : ((k : Int) == 36) = false := by simp; omega
    have q37 : ((k : Int) == 37) = false := by simp; omega
    go_enter Tryz.func135, Tryz.ntmps135
    go_wp2
    go_ret2
    exact ⟨by rw [HV.out]; rfl, rfl⟩
/-- A parse of a type uses at least one token. -/
theorem Prs.use {bs : List UInt8} {n : Nat} {S S' : PS} {r : Nat} (h : Prs bs n .typ S (.ok S' r)) : S.used + 1 ≤ S'.used := by
  generalize hnt : Nt.typ = nt at h
  generalize ho : Out.ok S' r = o at h
  cases h with
  | basic _ => cases ho; exact Nat.le_refl _
  | none _ => cases ho; exact Nat.le_refl _
  | tname _ => cases ho; exact Nat.le_refl _
  | @vec _ S1 r1 o1 h1 h2 h3 h4 h5 h6 =>
    have m1 : Mv ((S.adv bs n).opn bs n) S1 1 0 := h4.mv
    have m2 := h6.mv
    cases o1 with
    | bad k => cases ho
    | oks _ _ => exact m2.elim
    | ok S2 r2 =>
      have m2 : Mv (S1.adv bs n) S2 1 0 := m2
      have ho : Out.ok S' r = Out.tyE _ _ _ (if S2.tok.kind = 11 then .ok (S2.sht bs n) r2 else .bad S2.unx) := ho
      by_cases hq : S2.tok.kind = 11
      · rw [if_pos hq] at ho
        cases ho
        have u1 := m1.u
        have u2 := m2.u
        show S.used + 1 ≤ S2.used + 1
        have e1 : ((S.adv bs n).opn bs n).used = S.used + 1 + 1 := rfl
        have e2 : (S1.adv bs n).used = S1.used + 1 := rfl
        omega
      · rw [if_neg hq] at ho; cases ho
  | @bits _ o1 h1 h2 h3 h4 =>
    have m2 := h4.mv
    cases o1 with
    | bad k => cases ho
    | oks _ _ => exact m2.elim
    | ok S2 r2 =>
      have m2 : Mv ((S.adv bs n).opn bs n) S2 1 0 := m2
      have ho : Out.ok S' r = Out.tyE _ _ _ (if S2.tok.kind = 11 then .ok (S2.sht bs n) r2 else .bad S2.unx) := ho
      by_cases hq : S2.tok.kind = 11
      · rw [if_pos hq] at ho
        cases ho
        have u2 := m2.u
        show S.used + 1 ≤ S2.used + 1
        have e1 : ((S.adv bs n).opn bs n).used = S.used + 1 + 1 := rfl
        omega
      · rw [if_neg hq] at ho; cases ho
  | uniE h1 h2 h3 h4 =>
    unfold PS.uni at ho
    rw [if_pos h4] at ho
    cases ho
    show S.used + 1 ≤ S.used + 1 + 1 + 1
    omega
  | @uni _ o1 h1 h2 h3 h4 h5 =>
    have m2 := h5.mv
    cases o1 with
    | bad k => cases ho
    | ok _ _ => exact m2.elim
    | oks S2 rs =>
      obtain ⟨k, _, m2⟩ := m2
      have ho : Out.ok S' r = S2.uni bs n S.tok.pos rs := ho
      unfold PS.uni at ho
      by_cases hq : S2.tok.kind = 11
      · rw [if_pos hq] at ho
        cases ho
        have u2 := m2.u
        show S.used + 1 ≤ S2.used + 1
        have e1 : ((S.adv bs n).opn bs n).used = S.used + 1 + 1 := rfl
        omega
      · rw [if_neg hq] at ho; cases ho
  | brk => cases ho
  | brkD => cases ho
  | vecB => cases ho
  | vecC => cases ho
  | typN => cases ho
  | _ => cases hnt
section
variable {N mg : Nat} {ρ ρ' : Rl} {w w' w1 w2 : World} {l : PL} {bs : List UInt8} {S S' : PS} {F : FS}
/-- The parser's memory is kept if its own blocks, the text's and the listed variables' are. -/
theorem PR.keep (h : PR N mg ρ w l bs F) (hz : w.heap.size ≤ w'.heap.size) (ho : w'.os = w.os ∧ w'.tape = w.tape ∧ w'.output = w.output) (hb : ∀ b, b < w.heap.size → (b < N ∨ ρ b ≠ 0 ∨ ∃ ad, l.a = some ad ∧ ad.block = b) → w'.heap[b]? = w.heap[b]?) : PR N mg ρ w' l bs F := by
  obtain ⟨V, hV, hR⟩ := h.rows
  have hk : ∀ {α : Type} {K : RK α} {c : Nat} {v : Value} {xs : List α}, c ≠ 0 → RowX K w ρ c v xs → RowX K w' ρ c v xs := fun hc hr => hr.of (fun g hg hr => ⟨hb g hg (.inr (.inl (by rw [hr]; exact hc))), rfl⟩)
  refine ⟨h.src.of hz (fun ad ha hl => hb _ hl (.inr (.inr ⟨ad, ha, rfl⟩))), h.gl.below ⟨ho.1, ho.2.1, ho.2.2, hz, fun g hg => hb g (Nat.lt_of_lt_of_le hg h.gl.sz) (.inl hg)⟩, ⟨V, hV.of (hb _ hV.lt (.inr (.inl (by rw [h.rf]; decide)))), hk (by decide) hR.d, hk (by decide) hR.t, hk (by decide) hR.e, hk (by decide) hR.f, hk (by decide) hR.o⟩, h.rp, h.rf, h.rs, h.rN, fun g hg => Nat.lt_of_lt_of_le (h.dom g hg) hz⟩
theorem PM.keep (h : PM N mg ρ w l bs S) (hz : w.heap.size ≤ w'.heap.size) (ho : w'.os = w.os ∧ w'.tape = w.tape ∧ w'.output = w.output) (hb : ∀ b, b < w.heap.size → (b < N ∨ ρ b ≠ 0 ∨ ∃ ad, l.a = some ad ∧ ad.block = b) → w'.heap[b]? = w.heap[b]?) : PM N mg ρ w' l bs S :=
  ⟨h.pb.of (hb _ h.pb.lt (.inr (.inl (by rw [h.r.rp]; decide)))), h.r.keep hz ho hb, h.ok⟩
/-- A block of the caller's own is written. -/
theorem PM.updL {q n0 : Nat} (h : PM N mg ρ w l bs S) (hu : Upd q w w') (hq : ρ q = 0) (hn : n0 ≤ q) (hN : N ≤ n0) (hs : ∀ ad, l.a = some ad → ad.block < n0) : PM N mg ρ w' l bs S :=
  h.keep hu.size ⟨hu.os, hu.tape, hu.output⟩ (fun b hb hc => hu.block b hb (fun e => by
    subst e
    rcases hc with h1 | h1 | ⟨ad, h1, h2⟩
    · omega
    · exact h1 hq
    · have := hs ad h1; omega))
/-- A row of the caller's own has grown. -/
theorem PM.kepL {v : Value} {n0 : Nat} (h : PM N mg ρ w l bs S) (hk : Kep w v w') (hv : ∀ g, v.ownBlock = some g → ρ g = 0 ∧ n0 ≤ g) (hN : N ≤ n0) (hs : ∀ ad, l.a = some ad → ad.block < n0) : PM N mg ρ w' l bs S :=
  h.keep hk.size ⟨hk.os, hk.tape, hk.output⟩ (fun b hb hc => hk.blk b hb (fun g hg e => by
    subst e
    obtain ⟨h0, h9⟩ := hv b hg
    rcases hc with h1 | h1 | ⟨ad, h1, h2⟩
    · omega
    · exact h1 h0
    · have := hs ad h1; omega))
theorem Fr.updL {X : Nat → Bool} {q : Nat} (h : Fr X ρ w ρ' w1) (hu : Upd q w1 w2) (hq : w.heap.size ≤ q) : Fr X ρ w ρ' w2 :=
  ⟨hu.os.trans h.os, hu.tape.trans h.tape, hu.output.trans h.output, Nat.le_trans h.size hu.size, h.old, fun g hg => h.nw g (Nat.le_trans hu.size hg), fun g hg hx => (hu.block g (Nat.lt_of_lt_of_le hg h.size) (by omega)).trans (h.blk g hg hx)⟩
theorem Fr.kepL {X : Nat → Bool} {v : Value} (h : Fr X ρ w ρ' w1) (hk : Kep w1 v w2) (hq : ∀ g, v.ownBlock = some g → w.heap.size ≤ g) : Fr X ρ w ρ' w2 :=
  ⟨hk.os.trans h.os, hk.tape.trans h.tape, hk.output.trans h.output, Nat.le_trans h.size hk.size, h.old, fun g hg => h.nw g (Nat.le_trans hk.size hg), fun g hg hx => (hk.blk g (Nat.lt_of_lt_of_le hg h.size) (fun g' hg' e => by have := hq g' hg'; omega)).trans (h.blk g hg hx)⟩
/-- Inside parseType: the token in block p, the node in block q. -/
structure TyB (N mg : Nat) (ρ : Rl) (w : World) (l : PL) (bs : List UInt8) (S : PS) (p : Nat) (t : Tk) (q : Nat) (x : TN) (ρ' : Rl) (w' : World) : Prop where
  m : PM N mg ρ' w' l bs S
  f : Fr X7 ρ w ρ' w'
  bt : Blk w' p 112 (tkC t)
  bn : Blk w' q 157 (tnC x)
  zt : ρ' p = 0
  zn : ρ' q = 0
  lp : w.heap.size ≤ p
  lq : w.heap.size ≤ q
  hN : N ≤ w.heap.size
  hs : ∀ ad, l.a = some ad → ad.block < w.heap.size
section
variable {p q : Nat} {t : Tk} {x x' : TN}
theorem TyB.go (h : TyB N mg ρ w l bs S p t q x ρ' w1) (hg : PGo N mg ρ' w1 l bs S' w2) : ∃ ρ2, TyB N mg ρ w l bs S' p t q x ρ2 w2 := by
  obtain ⟨ρ2, h1, h2⟩ := hg.m
  exact ⟨ρ2, h1, h.f.trans h2, h2.keep h.bt h.zt rfl, h2.keep h.bn h.zn rfl, by rw [h2.old _ h.bt.lt]; exact h.zt, by rw [h2.old _ h.bn.lt]; exact h.zn, h.lp, h.lq, h.hN, h.hs⟩
theorem TyB.below (h : TyB N mg ρ w l bs S p t q x ρ' w1) (hb : Below w1.heap.size w1 w2) : TyB N mg ρ w l bs S p t q x ρ' w2 := ⟨h.m.below hb, h.f.trans (Fr.below hb), h.bt.below hb, h.bn.below hb, h.zt, h.zn, h.lp, h.lq, h.hN, h.hs⟩
theorem TyB.ne (h : TyB N mg ρ w l bs S p t q x ρ' w1) : p ≠ q := fun e => by
  subst e
  have h1 : w1.heap[p]? = some (.cells (tkC t).toArray 112 (0, 0)) := h.bt
  have h2 : w1.heap[p]? = some (.cells (tnC x).toArray 157 (0, 0)) := h.bn
  rw [h1] at h2
  simp at h2
/-- A cell of the node is written. -/
theorem TyB.set (h : TyB N mg ρ w l bs S p t q x ρ' w1) (j : Nat) (v : Value) (hx : (tnC x).set j v = tnC x') : TyB N mg ρ w l bs S p t q x' ρ' (w1.setCell ⟨q, j, none⟩ v) := by
  have hu : Upd q w1 (w1.setCell ⟨q, j, none⟩ v) := (Upd.refl q w1).setCell rfl _
  have hb := h.bn.set j v
  rw [hx] at hb
  exact ⟨h.m.updL hu h.zn h.lq h.hN h.hs, h.f.updL hu h.lq, h.bt.upd hu h.ne, hb, h.zt, h.zn, h.lp, h.lq, h.hN, h.hs⟩
theorem TyB.no {k : Nat × Nat} (h : TyB N mg ρ w l bs S p t q x ρ' w1) (hn : PNo N mg ρ' w1 l bs k w2) : PNo N mg ρ w l bs k w2 := PNo.pre' h.f hn
theorem TyB.gone (h : TyB N mg ρ w l bs S p t q x ρ' w1) : PGo N mg ρ w l bs S w1 := ⟨ρ', h.m, h.f⟩
theorem TyB.tc (h : TyB N mg ρ w l bs S p t q x ρ' w1) : w1.cell? ⟨p, 0, none⟩ = some (.int .u8 (t.kind : Int)) ∧ w1.cell? ⟨p, 1, none⟩ = some (.int .i64 (t.pos : Int)) ∧ w1.cell? ⟨p, 2, none⟩ = some (.int .i64 (t.en : Int)) := ⟨h.bt.cell 0, h.bt.cell 1, h.bt.cell 2⟩
theorem TyB.nc (h : TyB N mg ρ w l bs S p t q x ρ' w1) (j : Nat) : w1.cell? ⟨q, j, none⟩ = (tnC x)[j]? ∧ w1.frozen? ⟨q, j, none⟩ = false := ⟨h.bn.cell j, h.bn.frozen j⟩
end
end
end Go.Proofs.Qxb6500883aGreatDoor
