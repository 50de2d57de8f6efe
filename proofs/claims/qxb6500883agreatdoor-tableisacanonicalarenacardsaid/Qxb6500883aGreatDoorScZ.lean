/- What the parser does, as a relation between its states. No Go here. -/
import Derived.Test.Qxb6500883aGreatDoorScY
namespace Go.Proofs.Qxb6500883aGreatDoor
open Go.RowKit
set_option linter.unusedSimpArgs false
set_option linter.unusedVariables false
inductive Nt
  | atom | power | term | termT (r : Nat) | expr | exprT (r : Nat) | typ | opts (acc : List Nat)
inductive Out
  | ok (S : PS) (r : Nat)
  | oks (S : PS) (rs : List Nat)
  | bad (k : Nat × Nat)
/-- A bracket wanted behind what was read. -/
def Out.shut (bs : List UInt8) (n k : Nat) : Out → Out
  | .ok S r => if S.tok.kind = k then .ok (S.sht bs n) r else .bad S.unx
  | .oks S rs => .oks S rs
  | .bad k => .bad k
/-- A bracketed type ends with its count. -/
def Out.tyE (form pos : Nat) (el : Int) : Out → Out
  | .ok S r => .ok (S.addT ⟨form, 0, pos, ⟨#[]⟩, el, (r : Int), 0, 0⟩) S.fs.types.length
  | .oks S rs => .oks S rs
  | .bad k => .bad k
def PS.addO (S : PS) (rs : List Nat) : PS := { S with fs := S.fs.addO rs }
/-- A union ends with its options. -/
def PS.uni (S : PS) (bs : List UInt8) (n pos : Nat) (rs : List Nat) : Out :=
  if S.tok.kind = 11 then .ok (((S.addO rs).sht bs n).addT ⟨7, 0, pos, ⟨#[]⟩, -1, -1, S.fs.opts.length, S.fs.opts.length + rs.length⟩) S.fs.types.length else .bad S.unx
def Out.uni (bs : List UInt8) (n pos : Nat) : Out → Out
  | .ok S r => .ok S r
  | .oks S rs => S.uni bs n pos rs
  | .bad k => .bad k
/-- The basic types' keywords. -/
def basicK (k : Nat) : Option Nat := if k = 30 then some 1 else if k = 31 ∨ k = 32 then some 2 else if 33 ≤ k ∧ k ≤ 37 then some (k - 30) else none
def enB (form pos : Nat) (l r : Int) : EN := ⟨form, pos, 0, ⟨#[]⟩, l, r⟩
def tnL (form basic pos : Nat) (name : ByteArray) : TN := ⟨form, basic, pos, name, -1, -1, 0, 0⟩
inductive Prs (bs : List UInt8) (n : Nat) : Nt → PS → Out → Prop
  | num {S} : S.tok.kind = 5 → Prs bs n .atom S (.ok ((S.adv bs n).addE ⟨0, S.tok.pos, S.tok.val, ⟨#[]⟩, -1, -1⟩) S.fs.exprs.length)
  | name {S} : S.tok.kind = 4 → Prs bs n .atom S (.ok ((S.adv bs n).addE ⟨1, S.tok.pos, 0, S.word bs, -1, -1⟩) S.fs.exprs.length)
  | badnum {S} : S.tok.kind = 3 → Prs bs n .atom S (.bad (3, S.tok.bad))
  | deep {S} : S.tok.kind = 14 → 32 ≤ S.depth → Prs bs n .atom S (.bad (5, S.tok.pos))
  | paren {S o} : S.tok.kind = 14 → S.depth < 32 → Prs bs n .expr (S.opn bs n) o → Prs bs n .atom S (o.shut bs n 15)
  | atomN {S} : S.tok.kind ≠ 5 → S.tok.kind ≠ 4 → S.tok.kind ≠ 3 → S.tok.kind ≠ 14 → Prs bs n .atom S (.bad S.unx)
  | powB {S k} : Prs bs n .atom S (.bad k) → Prs bs n .power S (.bad k)
  | pow1 {S S1 r} : Prs bs n .atom S (.ok S1 r) → S1.tok.kind ≠ 20 → Prs bs n .power S (.ok S1 r)
  | pow2 {S S1 r S2 r2} : Prs bs n .atom S (.ok S1 r) → S1.tok.kind = 20 → Prs bs n .atom (S1.adv bs n) (.ok S2 r2) → Prs bs n .power S (.ok (S2.addE (enB 6 S1.tok.pos (r : Int) (r2 : Int))) S2.fs.exprs.length)
  | pow2B {S S1 r k} : Prs bs n .atom S (.ok S1 r) → S1.tok.kind = 20 → Prs bs n .atom (S1.adv bs n) (.bad k) → Prs bs n .power S (.bad k)
  | termB {S k} : Prs bs n .power S (.bad k) → Prs bs n .term S (.bad k)
  | term {S S1 r o} : Prs bs n .power S (.ok S1 r) → Prs bs n (.termT r) S1 o → Prs bs n .term S o
  | tE {S} {r : Nat} : S.tok.kind ≠ 18 → S.tok.kind ≠ 19 → Prs bs n (.termT r) S (.ok S r)
  | tB {S} {r : Nat} {k} : S.tok.kind = 18 ∨ S.tok.kind = 19 → Prs bs n .power (S.adv bs n) (.bad k) → Prs bs n (.termT r) S (.bad k)
  | tS {S} {r : Nat} {S1 r1 o} : S.tok.kind = 18 ∨ S.tok.kind = 19 → Prs bs n .power (S.adv bs n) (.ok S1 r1) → Prs bs n (.termT S1.fs.exprs.length) (S1.addE (enB (if S.tok.kind = 19 then 5 else 4) S.tok.pos (r : Int) (r1 : Int))) o → Prs bs n (.termT r) S o
  | exprB {S k} : Prs bs n .term S (.bad k) → Prs bs n .expr S (.bad k)
  | expr {S S1 r o} : Prs bs n .term S (.ok S1 r) → Prs bs n (.exprT r) S1 o → Prs bs n .expr S o
  | eE {S} {r : Nat} : S.tok.kind ≠ 16 → S.tok.kind ≠ 17 → Prs bs n (.exprT r) S (.ok S r)
  | eB {S} {r : Nat} {k} : S.tok.kind = 16 ∨ S.tok.kind = 17 → Prs bs n .term (S.adv bs n) (.bad k) → Prs bs n (.exprT r) S (.bad k)
  | eS {S} {r : Nat} {S1 r1 o} : S.tok.kind = 16 ∨ S.tok.kind = 17 → Prs bs n .term (S.adv bs n) (.ok S1 r1) → Prs bs n (.exprT S1.fs.exprs.length) (S1.addE (enB (if S.tok.kind = 17 then 3 else 2) S.tok.pos (r : Int) (r1 : Int))) o → Prs bs n (.exprT r) S o
  | basic {S id} : basicK S.tok.kind = some id → Prs bs n .typ S (.ok ((S.adv bs n).addT (tnL 0 id S.tok.pos ⟨#[]⟩)) S.fs.types.length)
  | none {S} : S.tok.kind = 29 → Prs bs n .typ S (.ok ((S.adv bs n).addT (tnL 1 0 S.tok.pos ⟨#[]⟩)) S.fs.types.length)
  | tname {S} : S.tok.kind = 4 → Prs bs n .typ S (.ok ((S.adv bs n).addT (tnL 2 0 S.tok.pos (S.word bs))) S.fs.types.length)
  | brk {S} : 24 ≤ S.tok.kind → S.tok.kind ≤ 28 → (S.adv bs n).tok.kind ≠ 10 → Prs bs n .typ S (.bad (S.adv bs n).unx)
  | brkD {S} : 24 ≤ S.tok.kind → S.tok.kind ≤ 28 → (S.adv bs n).tok.kind = 10 → 32 ≤ S.depth → Prs bs n .typ S (.bad (5, (S.adv bs n).tok.pos))
  | vecB {S k} : S.tok.kind = 24 ∨ S.tok.kind = 25 → (S.adv bs n).tok.kind = 10 → S.depth < 32 → Prs bs n .typ ((S.adv bs n).opn bs n) (.bad k) → Prs bs n .typ S (.bad k)
  | vecC {S S1 r} : S.tok.kind = 24 ∨ S.tok.kind = 25 → (S.adv bs n).tok.kind = 10 → S.depth < 32 → Prs bs n .typ ((S.adv bs n).opn bs n) (.ok S1 r) → S1.tok.kind ≠ 9 → Prs bs n .typ S (.bad S1.unx)
  | vec {S S1 r o} : S.tok.kind = 24 ∨ S.tok.kind = 25 → (S.adv bs n).tok.kind = 10 → S.depth < 32 → Prs bs n .typ ((S.adv bs n).opn bs n) (.ok S1 r) → S1.tok.kind = 9 → Prs bs n .expr (S1.adv bs n) o → Prs bs n .typ S ((o.shut bs n 11).tyE (if S.tok.kind = 25 then 4 else 3) S.tok.pos (r : Int))
  | bits {S o} : S.tok.kind = 26 ∨ S.tok.kind = 27 → (S.adv bs n).tok.kind = 10 → S.depth < 32 → Prs bs n .expr ((S.adv bs n).opn bs n) o → Prs bs n .typ S ((o.shut bs n 11).tyE (if S.tok.kind = 27 then 6 else 5) S.tok.pos (-1))
  | uniE {S} : S.tok.kind = 28 → (S.adv bs n).tok.kind = 10 → S.depth < 32 → ((S.adv bs n).opn bs n).tok.kind = 11 → Prs bs n .typ S (((S.adv bs n).opn bs n).uni bs n S.tok.pos [])
  | uni {S o} : S.tok.kind = 28 → (S.adv bs n).tok.kind = 10 → S.depth < 32 → ((S.adv bs n).opn bs n).tok.kind ≠ 11 → Prs bs n (.opts []) ((S.adv bs n).opn bs n) o → Prs bs n .typ S (o.uni bs n S.tok.pos)
  | typN {S} : S.tok.kind ≠ 4 → ¬ (24 ≤ S.tok.kind) → Prs bs n .typ S (.bad S.unx)
  | oB {S acc k} : Prs bs n .typ S (.bad k) → Prs bs n (.opts acc) S (.bad k)
  | oE {S acc S1 r} : Prs bs n .typ S (.ok S1 r) → S1.tok.kind ≠ 9 → Prs bs n (.opts acc) S (.oks S1 (acc ++ [r]))
  | oS {S acc S1 r o} : Prs bs n .typ S (.ok S1 r) → S1.tok.kind = 9 → Prs bs n (.opts (acc ++ [r])) (S1.adv bs n) o → Prs bs n (.opts acc) S o
/-- How the counters move. -/
structure Mv (S S' : PS) (k j : Nat) : Prop where
  u : S.used ≤ S'.used
  n : S'.fs.types.length + S'.fs.exprs.length + S.used + j ≤ S.fs.types.length + S.fs.exprs.length + S'.used
  o : S'.fs.opts.length + S.used + k ≤ S.fs.opts.length + S'.used
  d : S'.depth = S.depth
  f : S'.fs.fields = S.fs.fields
  c : S'.fs.decls = S.fs.decls
theorem Mv.trans {S S' S'' : PS} {j k j' k' : Nat} (h : Mv S S' k j) (h' : Mv S' S'' k' j') : Mv S S'' (k + k') (j + j') := by
  obtain ⟨a1, a2, a3, a4, a5, a6⟩ := h
  obtain ⟨b1, b2, b3, b4, b5, b6⟩ := h'
  exact ⟨by omega, by omega, by omega, by rw [b4, a4], by rw [b5, a5], by rw [b6, a6]⟩
theorem Mv.mono {S S' : PS} {j k j' k' : Nat} (h : Mv S S' k j) (hk : k' ≤ k) (hj : j' ≤ j) : Mv S S' k' j' := by
  obtain ⟨a1, a2, a3, a4, a5, a6⟩ := h
  exact ⟨a1, by omega, by omega, a4, a5, a6⟩
theorem Mv.refl (S : PS) : Mv S S 0 0 := ⟨Nat.le_refl _, Nat.le_refl _, Nat.le_refl _, rfl, rfl, rfl⟩
section
variable {bs : List UInt8} {n : Nat}
theorem adv_used (S : PS) : (S.adv bs n).used = S.used + 1 := rfl
theorem adv_fs (S : PS) : (S.adv bs n).fs = S.fs := rfl
theorem adv_depth (S : PS) : (S.adv bs n).depth = S.depth := rfl
theorem Mv.adv (S : PS) : Mv S (S.adv bs n) 1 1 := ⟨by rw [adv_used]; omega, by rw [adv_used, adv_fs]; omega, by rw [adv_used, adv_fs]; omega, rfl, rfl, rfl⟩
theorem Mv.addE {S S1 : PS} {k j : Nat} (h : Mv S S1 k (j + 1)) (x : EN) : Mv S (S1.addE x) k j := by
  obtain ⟨a1, a2, a3, a4, a5, a6⟩ := h
  refine ⟨a1, ?_, a3, a4, a5, a6⟩
  show S1.fs.types.length + (S1.fs.exprs ++ [x]).length + S.used + j ≤ _ + S1.used
  rw [List.length_append, List.length_singleton]
  omega
theorem Mv.addT {S S1 : PS} {k j : Nat} (h : Mv S S1 k (j + 1)) (x : TN) : Mv S (S1.addT x) k j := by
  obtain ⟨a1, a2, a3, a4, a5, a6⟩ := h
  refine ⟨a1, ?_, a3, a4, a5, a6⟩
  show (S1.fs.types ++ [x]).length + S1.fs.exprs.length + S.used + j ≤ _ + S1.used
  rw [List.length_append, List.length_singleton]
  omega
/-- Inside one more bracket. -/
theorem Mv.brk {S S1 S2 : PS} {k j : Nat} (h : Mv S S1 1 1) (h2 : Mv (S1.opn bs n) S2 k j) : Mv S (S2.sht bs n) (k + 3) (j + 3) := by
  obtain ⟨a1, a2, a3, a4, a5, a6⟩ := h
  obtain ⟨b1, b2, b3, b4, b5, b6⟩ := h2
  have e1 : (S1.opn bs n).used = S1.used + 1 := rfl
  have e2 : (S1.opn bs n).fs = S1.fs := rfl
  have e3 : (S1.opn bs n).depth = S1.depth + 1 := rfl
  have e4 : (S2.sht bs n).used = S2.used + 1 := rfl
  have e5 : (S2.sht bs n).fs = S2.fs := rfl
  have e6 : (S2.sht bs n).depth = S2.depth - 1 := rfl
  rw [e1, e2] at b2 b3
  rw [e1] at b1
  rw [e3] at b4
  rw [e2] at b5 b6
  refine ⟨by rw [e4]; omega, by rw [e4, e5]; omega, by rw [e4, e5]; omega, by rw [e6, b4, a4]; omega, by rw [e5, b5, a5], by rw [e5, b6, a6]⟩
theorem Mv.brk1 {S S2 : PS} {k j : Nat} (h2 : Mv (S.opn bs n) S2 k j) : Mv S (S2.sht bs n) (k + 2) (j + 2) := by
  obtain ⟨b1, b2, b3, b4, b5, b6⟩ := h2
  have e1 : (S.opn bs n).used = S.used + 1 := rfl
  have e2 : (S.opn bs n).fs = S.fs := rfl
  have e3 : (S.opn bs n).depth = S.depth + 1 := rfl
  have e4 : (S2.sht bs n).used = S2.used + 1 := rfl
  have e5 : (S2.sht bs n).fs = S2.fs := rfl
  have e6 : (S2.sht bs n).depth = S2.depth - 1 := rfl
  rw [e1, e2] at b2 b3
  rw [e1] at b1
  rw [e3] at b4
  rw [e2] at b5 b6
  refine ⟨by rw [e4]; omega, by rw [e4, e5]; omega, by rw [e4, e5]; omega, by rw [e6, b4]; omega, by rw [e5, b5], by rw [e5, b6]⟩
theorem Mv.addO {S S1 : PS} {k j : Nat} {rs : List Nat} (h : Mv S S1 (k + rs.length) j) : Mv S (S1.addO rs) k j := by
  obtain ⟨a1, a2, a3, a4, a5, a6⟩ := h
  refine ⟨a1, a2, ?_, a4, a5, a6⟩
  show (S1.fs.opts ++ rs).length + S.used + k ≤ _ + S1.used
  rw [List.length_append]
  omega
/-- What a parse moves. -/
def OutMv (S : PS) : Nt → Out → Prop
  | .atom, .ok S' _ => Mv S S' 1 0
  | .power, .ok S' _ => Mv S S' 1 0
  | .term, .ok S' _ => Mv S S' 1 0
  | .expr, .ok S' _ => Mv S S' 1 0
  | .typ, .ok S' _ => Mv S S' 1 0
  | .termT _, .ok S' _ => Mv S S' 0 0
  | .exprT _, .ok S' _ => Mv S S' 0 0
  | .opts acc, .oks S' rs => ∃ k, rs.length = acc.length + k ∧ Mv S S' k 0
  | _, .bad _ => True
  | _, _ => False
theorem Prs.mv {nt : Nt} {S : PS} {o : Out} (h : Prs bs n nt S o) : OutMv S nt o := by
  induction h with
  | num _ => exact Mv.addE (Mv.adv _) _
  | name _ => exact Mv.addE (Mv.adv _) _
  | badnum _ => trivial
  | deep _ _ => trivial
  | @paren S o _ _ _ ih =>
    cases o with
    | bad k => trivial
    | oks _ _ => exact ih.elim
    | ok S1 r =>
      have ih : Mv (S.opn bs n) S1 1 0 := ih
      show OutMv S .atom (if S1.tok.kind = 15 then .ok (S1.sht bs n) r else .bad S1.unx)
      by_cases hq : S1.tok.kind = 15
      · rw [if_pos hq]; exact (Mv.brk1 ih).mono (by omega) (by omega)
      · rw [if_neg hq]; trivial
  | atomN _ _ _ _ => trivial
  | powB _ _ => trivial
  | pow1 _ _ ih => exact ih
  | @pow2 S S1 r S2 r2 _ _ _ ih1 ih2 =>
    have ih1 : Mv S S1 1 0 := ih1
    have ih2 : Mv (S1.adv bs n) S2 1 0 := ih2
    exact (Mv.addE (k := 3) (j := 0) ((ih1.trans (Mv.adv S1)).trans ih2) _).mono (by omega) (by omega)
  | pow2B _ _ _ _ _ => trivial
  | termB _ _ => trivial
  | @term S S1 r o _ _ ih1 ih2 =>
    cases o with
    | bad k => trivial
    | oks _ _ => exact ih2.elim
    | ok S2 r2 =>
      have ih1 : Mv S S1 1 0 := ih1
      have ih2 : Mv S1 S2 0 0 := ih2
      exact ih1.trans ih2
  | tE _ _ => exact Mv.refl _
  | tB _ _ _ => trivial
  | @tS S r S1 r1 o _ _ _ ih1 ih2 =>
    cases o with
    | bad k => trivial
    | oks _ _ => exact ih2.elim
    | ok S2 r2 =>
      have ih1 : Mv (S.adv bs n) S1 1 0 := ih1
      have ih2 : Mv (S1.addE _) S2 0 0 := ih2
      exact ((Mv.addE (k := 2) (j := 0) ((Mv.adv S).trans ih1) _).trans ih2).mono (by omega) (by omega)
  | exprB _ _ => trivial
  | @expr S S1 r o _ _ ih1 ih2 =>
    cases o with
    | bad k => trivial
    | oks _ _ => exact ih2.elim
    | ok S2 r2 =>
      have ih1 : Mv S S1 1 0 := ih1
      have ih2 : Mv S1 S2 0 0 := ih2
      exact ih1.trans ih2
  | eE _ _ => exact Mv.refl _
  | eB _ _ _ => trivial
  | @eS S r S1 r1 o _ _ _ ih1 ih2 =>
    cases o with
    | bad k => trivial
    | oks _ _ => exact ih2.elim
    | ok S2 r2 =>
      have ih1 : Mv (S.adv bs n) S1 1 0 := ih1
      have ih2 : Mv (S1.addE _) S2 0 0 := ih2
      exact ((Mv.addE (k := 2) (j := 0) ((Mv.adv S).trans ih1) _).trans ih2).mono (by omega) (by omega)
  | basic _ => exact Mv.addT (Mv.adv _) _
  | none _ => exact Mv.addT (Mv.adv _) _
  | tname _ => exact Mv.addT (Mv.adv _) _
  | brk _ _ _ => trivial
  | brkD _ _ _ _ => trivial
  | vecB _ _ _ _ _ => trivial
  | vecC _ _ _ _ _ _ => trivial
  | @vec S S1 r o _ _ _ _ _ _ ih1 ih2 =>
    cases o with
    | bad k => trivial
    | oks _ _ => exact ih2.elim
    | ok S2 r2 =>
      have ih1 : Mv ((S.adv bs n).opn bs n) S1 1 0 := ih1
      have ih2 : Mv (S1.adv bs n) S2 1 0 := ih2
      show OutMv S .typ (Out.tyE _ _ _ (if S2.tok.kind = 11 then .ok (S2.sht bs n) r2 else .bad S2.unx))
      by_cases hq : S2.tok.kind = 11
      · rw [if_pos hq]; exact (Mv.addT (k := 6) (j := 3) ((Mv.adv S).brk ((ih1.trans (Mv.adv S1)).trans ih2)) _).mono (by omega) (by omega)
      · rw [if_neg hq]; trivial
  | @bits S o _ _ _ _ ih =>
    cases o with
    | bad k => trivial
    | oks _ _ => exact ih.elim
    | ok S1 r =>
      have ih : Mv ((S.adv bs n).opn bs n) S1 1 0 := ih
      show OutMv S .typ (Out.tyE _ _ _ (if S1.tok.kind = 11 then .ok (S1.sht bs n) r else .bad S1.unx))
      by_cases hq : S1.tok.kind = 11
      · rw [if_pos hq]; exact (Mv.addT (k := 4) (j := 2) ((Mv.adv S).brk ih) _).mono (by omega) (by omega)
      · rw [if_neg hq]; trivial
  | @uniE S _ _ _ h =>
    unfold PS.uni
    rw [if_pos h]
    exact (Mv.addT (k := 3) (j := 2) ((Mv.adv S).brk (Mv.addO (rs := []) (Mv.refl _))) _).mono (by omega) (by omega)
  | @uni S o _ _ _ _ _ ih =>
    cases o with
    | bad k => trivial
    | ok _ _ => exact ih.elim
    | oks S1 rs =>
      obtain ⟨k, hk, ih⟩ := ih
      rw [List.length_nil, Nat.zero_add] at hk
      show OutMv S .typ (S1.uni bs n S.tok.pos rs)
      unfold PS.uni
      split
      · rw [← hk] at ih
        exact (Mv.addT (k := 3) (j := 2) ((Mv.adv S).brk (Mv.addO (k := 0) (by rw [Nat.zero_add]; exact ih))) _).mono (by omega) (by omega)
      · trivial
  | typN _ _ => trivial
  | oB _ _ => trivial
  | @oE S acc S1 r _ _ ih =>
    have ih : Mv S S1 1 0 := ih
    exact ⟨1, by rw [List.length_append]; rfl, ih⟩
  | @oS S acc S1 r o _ _ _ ih1 ih2 =>
    cases o with
    | bad k => trivial
    | ok _ _ => exact ih2.elim
    | oks S2 rs =>
      have ih1 : Mv S S1 1 0 := ih1
      obtain ⟨k, hk, ih2⟩ := ih2
      rw [List.length_append, List.length_singleton] at hk
      exact ⟨1 + k, by omega, ((ih1.trans (Mv.adv S1)).trans ih2).mono (by omega) (by omega)⟩
/-- The rows are short. -/
structure PB (S : PS) : Prop where
  n : S.fs.types.length + S.fs.exprs.length ≤ S.used
  o : S.fs.opts.length ≤ S.used
theorem PB.mv {S S' : PS} {k j : Nat} (h : PB S) (hm : Mv S S' k j) : PB S' := by
  have h1 := hm.n
  have h2 := hm.o
  have h3 := h.n
  have h4 := h.o
  exact ⟨by omega, by omega⟩
end
end Go.Proofs.Qxb6500883aGreatDoor
