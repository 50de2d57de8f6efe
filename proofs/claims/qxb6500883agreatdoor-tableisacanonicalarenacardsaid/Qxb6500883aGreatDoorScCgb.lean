/- Nodes of the file, read through the checker; the names' rows. -/
import Derived.Test.Qxb6500883aGreatDoorScCga
namespace Go.Proofs.Qxb6500883aGreatDoor
open Go.RowKit
set_option linter.unusedSimpArgs false
set_option linter.unusedVariables false
section
variable {N mg : Nat} {ρ ρ' : Rl} {w w' w1 w2 : World} {l : PL} {bs : List UInt8} {F : FS} {U : FV} {c n : Nat} {V : CV} {errs : List (Nat × Nat)}
theorem CM.typ (h : CM N mg ρ w l bs F U c V errs) {ad : Option Addr} {nd qd : Nat} (hu : U.t = .slice ad nd qd) {i : Nat} {x : TN} (hx : F.types[i]? = some x) :
    ∃ gd, ad = some ⟨gd, 0, none⟩ ∧ gd < w.heap.size ∧ ∀ j, j < 8 → w.cell? ⟨gd, i * 8 + j, none⟩ = (tnC x)[j]? := by
  obtain ⟨gd, q, hv, hlt, hc⟩ := h.fr.t.get (by decide) (fun _ => rfl) hx
  rw [hu] at hv
  injection hv with e1 e2 e3
  exact ⟨gd, e1, hlt, hc⟩
theorem CM.expr (h : CM N mg ρ w l bs F U c V errs) {ad : Option Addr} {nd qd : Nat} (hu : U.e = .slice ad nd qd) {i : Nat} {x : EN} (hx : F.exprs[i]? = some x) :
    ∃ gd, ad = some ⟨gd, 0, none⟩ ∧ gd < w.heap.size ∧ ∀ j, j < 6 → w.cell? ⟨gd, i * 6 + j, none⟩ = (enC x)[j]? := by
  obtain ⟨gd, q, hv, hlt, hc⟩ := h.fr.e.get (by decide) (fun _ => rfl) hx
  rw [hu] at hv
  injection hv with e1 e2 e3
  exact ⟨gd, e1, hlt, hc⟩
end
/-- What each type's name stands for, as a row. -/
def tDA (F : FS) (j : Nat) : Int := match F.types[j]? with | some x => tDof F x | none => -1
def eDA (F : FS) (j : Nat) : Int := match F.exprs[j]? with | some x => eDof F x | none => -1
/-- The first k entries are written. -/
def upT (f : Nat → Int) (k j : Nat) : Int := if j < k then f j else 0
theorem upT_succ (f : Nat → Int) (k : Nat) : fup (upT f k) k (f k) = upT f (k + 1) := by
  funext j
  unfold fup upT
  by_cases e : j = k
  · subst e
    rw [if_pos rfl, if_pos (by omega)]
  · rw [if_neg e]
    by_cases h : j < k
    · rw [if_pos h, if_pos (by omega)]
    · rw [if_neg h, if_neg (by omega)]
theorem upT_end (f : Nat → Int) {n : Nat} : ∀ j, j < n → upT f n j = f j := fun j hj => if_pos hj
theorem tDA_get {F : FS} {i : Nat} {x : TN} (hx : F.types[i]? = some x) : tDA F i = tDof F x := by unfold tDA; rw [hx]
theorem eDA_get {F : FS} {i : Nat} {x : EN} (hx : F.exprs[i]? = some x) : eDA F i = eDof F x := by unfold eDA; rw [hx]
theorem tDof_not {F : FS} {x : TN} (h : x.form ≠ 2) : tDof F x = -1 := by unfold tDof; rw [if_neg h]
theorem eDof_not {F : FS} {x : EN} (h : x.form ≠ 1) : eDof F x = -1 := by unfold eDof; rw [if_neg h]
theorem tDof_none {F : FS} {x : TN} (h : fstI F F.decls.length x.name = none) : tDof F x = -1 := by unfold tDof; rw [h]; simp
theorem eDof_none {F : FS} {x : EN} (h : fstI F F.decls.length x.name = none) : eDof F x = -1 := by unfold eDof; rw [h]; simp
theorem tDof_some {F : FS} {x : TN} {d : Nat} {y : DN} (hf : x.form = 2) (h : fstI F F.decls.length x.name = some d) (hy : F.decls[d]? = some y) : tDof F x = if y.sort = 0 then -1 else (d : Int) := by unfold tDof; rw [if_pos hf, h]; show (if Option.map (fun x => x.sort) F.decls[d]? = some 0 then _ else _) = _; rw [hy]; simp
theorem eDof_some {F : FS} {x : EN} {d : Nat} {y : DN} (hf : x.form = 1) (h : fstI F F.decls.length x.name = some d) (hy : F.decls[d]? = some y) : eDof F x = if y.sort = 0 then (d : Int) else -1 := by unfold eDof; rw [if_pos hf, h]; show (if Option.map (fun x => x.sort) F.decls[d]? = some 0 then _ else _) = _; rw [hy]; simp
/-- All names are in order. -/
structure NamesOk (F : FS) : Prop where
  d : DclD F F.decls.length
  f : FldD F F.decls.length
  t : TyR F F.types.length
  e : ExR F F.exprs.length
/-- What the first phase leaves. -/
def E1 (F : FS) (mB gT gE : Nat) (ρ : Rl) (w : World) : Prop := NmM F mB F.decls.length ρ w ∧ RwJ gT F.types.length (tDA F) 12 ρ w ∧ RwJ gE F.exprs.length (eDA F) 13 ρ w
theorem E1.keeps {F : FS} {mB gT gE : Nat} : Keeps (E1 F mB gT gE) := Keeps.and NmM.keeps (Keeps.and (RwK.keeps rfl) (RwK.keeps rfl))
def V1 (V : CV) (mB gT nt gE ne : Nat) : CV := { V with byN := .map (some mB), tD := .slice (some ⟨gT, 0, none⟩) nt nt, eD := .slice (some ⟨gE, 0, none⟩) ne ne }
theorem NmM.fr {F : FS} {X : Nat → Bool} {mB k : Nat} {ρ ρ' : Rl} {w w' : World} (h : NmM F mB k ρ w) (hf : Fr X ρ w ρ' w') (hX : X 17 = false) : NmM F mB k ρ' w' := ⟨h.1.of (hf.blk mB h.1.lt (by rw [h.2]; exact hX)), by rw [hf.old mB h.1.lt]; exact h.2⟩
theorem NmM.fr12 {F : FS} {mB k : Nat} {ρ ρ' : Rl} {w w' : World} (h : NmM F mB k ρ w) (hf : Fr (fun r => r == 12) ρ w ρ' w') : NmM F mB k ρ' w' := h.fr hf rfl
theorem NmR.fr {F : FS} {mB k g n : Nat} {f : Nat → Int} {ρ ρ' : Rl} {w w' : World} (h : NmM F mB k ρ w ∧ RwJ g n f 12 ρ w) (hf : Fr (fun r => r == 13) ρ w ρ' w') : NmM F mB k ρ' w' ∧ RwJ g n f 12 ρ' w' := ⟨h.1.fr hf rfl, h.2.fr hf rfl⟩
theorem FWf.tN {n : Nat} {F : FS} (h : FWf n F) (i : Nat) (x : TN) (hx : F.types[i]? = some x) : x.pos ≤ n ∧ x.name.size ≤ n := by
  obtain ⟨y, h1, h2, h3⟩ := h.tc i (List.getElem?_eq_some_iff.1 hx).1
  have := (h.d y h1).tw i x h2 h3 hx
  exact ⟨this.pos, this.nm⟩
theorem FWf.eN {n : Nat} {F : FS} (h : FWf n F) (i : Nat) (x : EN) (hx : F.exprs[i]? = some x) : x.pos ≤ n ∧ x.name.size ≤ n := by
  obtain ⟨y, h1, h2, h3⟩ := h.ec i (List.getElem?_eq_some_iff.1 hx).1
  have := (h.d y h1).ew i x h2 h3 hx
  exact ⟨this.pos, this.nm⟩
/-- A file of no more nodes than tokens. -/
structure FSz (F : FS) : Prop where
  d : F.decls.length ≤ 65536
  f : F.fields.length ≤ 65536
  t : F.types.length ≤ 65536
  e : F.exprs.length ≤ 65536
  o : F.opts.length ≤ 65536
end Go.Proofs.Qxb6500883aGreatDoor
