/- The declarations' ranges fill the rows. No Go here. -/
import Derived.Test.Qxb6500883aGreatDoorScBc
namespace Go.Proofs.Qxb6500883aGreatDoor
open Go.RowKit
set_option linter.unusedSimpArgs false
set_option linter.unusedVariables false
/-- The declarations' types are as many as the types, their expressions as many as the expressions. -/
def RgF (F : FS) : Prop := (F.decls.map (fun x => x.tHi - x.tLo)).sum = F.types.length ∧ (F.decls.map (fun x => x.eHi - x.eLo)).sum = F.exprs.length
section
variable {bs : List UInt8} {n : Nat}
theorem DclOk.lo {S S' : PS} {x : DN} (h : DclOk bs n S S' x) : x.tLo = S.fs.types.length ∧ x.eLo = S.fs.exprs.length := by
  cases h <;> exact ⟨rfl, rfl⟩
theorem FileOk.rg (hl : bs.length = n) {S S' : PS} (h : FileOk bs n S S') : TOk n S → FWf n S.fs → RgF S.fs → RgF S'.fs := by
  induction h with
  | nil => intro _ _ h3; exact h3
  | @cons S S1 x S' h0 hd _ ih =>
    intro h1 h2 h3
    obtain ⟨a, b⟩ := hd.wf hl h1 h2
    refine ih b a ?_
    have hlo := hd.lo
    have hhi := hd.hi
    have huse := hd.use.2
    have hx := a.d x (by show x ∈ S1.fs.decls ++ [x]; simp)
    have ht := hx.t.1
    have he := hx.e.1
    unfold RgF at h3 ⊢
    show ((S1.fs.decls ++ [x]).map (fun x => x.tHi - x.tLo)).sum = S1.fs.types.length ∧ ((S1.fs.decls ++ [x]).map (fun x => x.eHi - x.eLo)).sum = S1.fs.exprs.length
    rw [List.map_append, List.map_append, List.sum_append, List.sum_append, huse, h3.1, h3.2]
    simp only [List.map_cons, List.map_nil, List.sum_cons, List.sum_nil]
    omega
theorem first_rg (hl : bs.length = n) {S : PS} (h : FileOk bs n (PS.first bs n) S) : RgF S.fs := by
  have h0 := nextT_ok hl (Nat.zero_le n) (k := 0)
  exact h.rg hl ⟨h0, h0.en⟩ ⟨fun x hx => (by cases hx), fun i hi => absurd hi (Nat.not_lt_zero _), fun i hi => absurd hi (Nat.not_lt_zero _), fun y hy => (by cases hy)⟩ ⟨rfl, rfl⟩
end
theorem sum_take_le (l : List Nat) (i : Nat) : (l.take i).sum ≤ l.sum := by
  induction l generalizing i with
  | nil => simp
  | cons a b ih =>
    cases i with
    | zero => simp
    | succ i => simp only [List.take_succ_cons, List.sum_cons]; have := ih i; omega
end Go.Proofs.Qxb6500883aGreatDoor
