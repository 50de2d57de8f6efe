/- The builder in memory. -/
import Derived.Test.Qxb6500883aGreatDoorScHa
namespace Go.Proofs.Qxb6500883aGreatDoor
open Go.RowKit
set_option linter.unusedSimpArgs false
set_option linter.unusedVariables false
/-- Where the builder lies. -/
structure BLy where
  b : Nat
  t : Nat
  c : Nat
  gD : Nat
  n : Value
def bdC (L : BLy) (nd : Nat) (vF : Value) : List Value := [.pointer (some ⟨L.c, 0, none⟩), .pointer (some ⟨L.t, 0, none⟩), .slice (some ⟨L.gD, 0, none⟩) nd nd, vF]
/-- The builder (roles 57 its block, 58 the declarations' types, 59 the positions) and its table. -/
structure BdX (τ : Rl) (w : World) (L : BLy) (nd : Nat) (B : BS) (V : TV) (ms mu : Nat) (vF : Value) (fps : List Nat) : Prop where
  bb : Blk w L.b 181 (bdC L nd vF)
  rb : τ L.b = 57
  dt : RwK 47 (fun x : Int => .int .i32 x) L.gD nd B.dt 58 τ w
  fp : RowX rtI w τ 59 vF fps
  tb : TbX τ w L.t V B.T ⟨ms, mu, B.sh, B.un⟩
  vn : V.byN = L.n
/-- The builder between two calls: a position for each type. -/
def BdM (n n0 : Nat) (τ : Rl) (w : World) (L : BLy) (nd : Nat) (B : BS) : Prop := ∃ V ms mu vF fps, BdX τ w L nd B V ms mu vF fps ∧ fps.length = B.T.types.length ∧ (∀ p ∈ fps, p ≤ n) ∧ ∀ g, τ g ≠ 0 → n0 ≤ g
def XL (r : Nat) : Bool := decide (50 ≤ r) && decide (r ≤ 59)
section
variable {τ τ' : Rl} {w w' w1 w2 : World} {L : BLy} {n n0 nd ms mu : Nat} {B B' : BS} {V V' : TV} {vF : Value} {fps : List Nat}
theorem BdX.below (h : BdX τ w L nd B V ms mu vF fps) (hb : Below w.heap.size w w') : BdX τ w' L nd B V ms mu vF fps :=
  ⟨h.bb.below hb, h.rb, h.dt.below hb, h.fp.fr (X := fun _ => false) (Fr.below hb) rfl, h.tb.below hb, h.vn⟩
theorem BdM.below (h : BdM n n0 τ w L nd B) (hb : Below w.heap.size w w') : BdM n n0 τ w' L nd B := by
  obtain ⟨V, ms, mu, vF, fps, h1, h2⟩ := h
  exact ⟨V, ms, mu, vF, fps, h1.below hb, h2⟩
/-- The table has changed. -/
theorem BdX.tab {X : Nat → Bool} (h : BdX τ w L nd B V ms mu vF fps) (hf : Fr X τ w τ' w') (h7 : X 57 = false) (h8 : X 58 = false) (h9 : X 59 = false) (ht : TbX τ' w' L.t V' B'.T ⟨ms, mu, B'.sh, B'.un⟩) (hd : B'.dt = B.dt) (hv : V'.byN = V.byN) : BdX τ' w' L nd B' V' ms mu vF fps :=
  ⟨hf.keep h.bb h.rb h7, by rw [hf.old _ h.bb.lt]; exact h.rb, by rw [hd]; exact h.dt.fr hf h8, h.fp.fr hf h9, ht, by rw [hv]; exact h.vn⟩
theorem BdX.fr {X : Nat → Bool} (h : BdX τ w L nd B V ms mu vF fps) (hf : Fr X τ w τ' w') (hX : ∀ r, 50 ≤ r → X r = false) : BdX τ' w' L nd B V ms mu vF fps :=
  h.tab hf (hX 57 (by decide)) (hX 58 (by decide)) (hX 59 (by decide)) (h.tb.fr hf (fun r h1 _ => hX r h1)) rfl rfl
/-- A block of one's own has been written. -/
theorem BdX.upd {g : Nat} (h : BdX τ w L nd B V ms mu vF fps) (hu : Upd g w w') (hg : τ g = 0) : BdX τ w' L nd B V ms mu vF fps :=
  h.fr (X := fun r => r == 0) (Fr.upd hu (by rw [hg]; rfl)) (fun r hr => by simp; omega)
theorem BdM.upd {g : Nat} (h : BdM n n0 τ w L nd B) (hu : Upd g w w') (hg : τ g = 0) : BdM n n0 τ w' L nd B := by
  obtain ⟨V, ms, mu, vF, fps, h1, h2⟩ := h
  exact ⟨V, ms, mu, vF, fps, h1.upd hu hg, h2⟩
theorem BdX.cells (h : BdX τ w L nd B V ms mu vF fps) : w.cell? ⟨L.b, 0, none⟩ = some (.pointer (some ⟨L.c, 0, none⟩)) ∧ w.cell? ⟨L.b, 1, none⟩ = some (.pointer (some ⟨L.t, 0, none⟩)) ∧ w.cell? ⟨L.b, 2, none⟩ = some (.slice (some ⟨L.gD, 0, none⟩) nd nd) ∧ w.cell? ⟨L.b, 3, none⟩ = some vF := ⟨h.bb.cell 0, h.bb.cell 1, h.bb.cell 2, h.bb.cell 3⟩
theorem BdM.cells (h : BdM n n0 τ w L nd B) : w.cell? ⟨L.b, 0, none⟩ = some (.pointer (some ⟨L.c, 0, none⟩)) ∧ w.cell? ⟨L.b, 1, none⟩ = some (.pointer (some ⟨L.t, 0, none⟩)) ∧ w.cell? ⟨L.b, 2, none⟩ = some (.slice (some ⟨L.gD, 0, none⟩) nd nd) := by
  obtain ⟨V, ms, mu, vF, fps, h1, h2⟩ := h
  exact ⟨h1.cells.1, h1.cells.2.1, h1.cells.2.2.1⟩
/-- A new position. -/
theorem BdX.app {v' : Value} {p : Nat} (h : BdX τ w L nd B V ms mu vF fps) (hr : RowX rtI w1 τ' 59 v' (fps ++ [p])) (hf : Fr (fun r => r == 59) τ w τ' w1) : BdX τ' (w1.setCell ⟨L.b, 3, none⟩ v') L nd B V ms mu v' (fps ++ [p]) ∧ Fr XL τ w τ' (w1.setCell ⟨L.b, 3, none⟩ v') := by
  have b1 := hf.keep h.bb h.rb rfl
  have r1 : τ' L.b = 57 := by rw [hf.old _ h.bb.lt]; exact h.rb
  have hf2 : Fr (fun r => r == 57) τ' w1 τ' (w1.setCell ⟨L.b, 3, none⟩ v') := Fr.set _ (by show (τ' L.b == 57) = true; rw [r1]; rfl)
  refine ⟨⟨?_, r1, (h.dt.fr hf rfl).fr hf2 rfl, hr.fr hf2 rfl, (h.tb.fr hf (fun r h1 h2 => by simp; omega)).fr hf2 (fun r h1 h2 => by simp; omega), h.vn⟩, (hf.one rfl).trans (hf2.one rfl)⟩
  exact b1.set 3 v'
/-- A lesser position. -/
theorem BdX.low {g q k i p p0 : Nat} (h : BdX τ w L nd B V ms mu vF fps) (hv : vF = .slice (some ⟨g, 0, none⟩) k q) (hi : fps[i]? = some p0) : BdX τ (w.setCell ⟨g, i, none⟩ (.int .i64 (p : Int))) L nd B V ms mu vF (fps.set i p) ∧ Fr XL τ w τ (w.setCell ⟨g, i, none⟩ (.int .i64 (p : Int))) ∧ w.frozen? ⟨g, i, none⟩ = false := by
  obtain ⟨h1, h2, h3⟩ := h.fp.put (x' := p) (u := .int .i64 (p : Int)) (by decide) (fun _ => rfl) hv hi (j := 0) (show 0 < 1 by decide) rfl
  have e : i * rtI.n + 0 = i := by show i * 1 + 0 = i; omega
  rw [e] at h1 h3
  have hf2 : Fr (fun r => r == 59) τ w τ (w.setCell ⟨g, i, none⟩ (.int .i64 (p : Int))) := Fr.set _ (by show (τ g == 59) = true; rw [h2]; rfl)
  exact ⟨⟨hf2.keep h.bb h.rb rfl, h.rb, h.dt.fr hf2 rfl, h1, h.tb.fr hf2 (fun r h1 h2 => by simp; omega), h.vn⟩, hf2.one rfl, h3⟩
/-- A declaration's type is noted. -/
theorem BdX.setD {d : Nat} (h : BdX τ w L nd B V ms mu vF fps) (hd : d < nd) (i : Int) : BdX τ (w.setCell ⟨L.gD, d, none⟩ (.int .i32 i)) L nd (B.set d i) V ms mu vF fps ∧ Fr XL τ w τ (w.setCell ⟨L.gD, d, none⟩ (.int .i32 i)) ∧ w.frozen? ⟨L.gD, d, none⟩ = false := by
  have hf2 : Fr (fun r => r == 58) τ w τ (w.setCell ⟨L.gD, d, none⟩ (.int .i32 i)) := Fr.set _ (by show (τ L.gD == 58) = true; rw [h.dt.2]; rfl)
  exact ⟨⟨hf2.keep h.bb h.rb rfl, h.rb, h.dt.set hd i, h.fp.fr hf2 rfl, h.tb.fr hf2 (fun r h1 h2 => by simp; omega), h.vn⟩, hf2.one rfl, h.dt.frozen d⟩
end
/-- What lowering reads: the checker, its rows and the file at the world w0. -/
structure LCx (N mg : Nat) (ρ : Rl) (w0 : World) (l : PL) (bs : List UInt8) (F : FS) (U : FV) (c : Nat) (V : CV) (gT gV : Nat) (vf rk : Nat → Nat) : Prop where
  m : CM N mg ρ w0 l bs F U c V []
  td : V.tD = .slice (some ⟨gT, 0, none⟩) F.types.length F.types.length
  rt : RwJ gT F.types.length (tDA F) 12 ρ w0
  ev : V.eV = .slice (some ⟨gV, 0, none⟩) F.exprs.length F.exprs.length
  rv : RwU gV F.exprs.length vf 14 ρ w0
  wf : FWf l.n F
  sz : FSz F
  vb : ∀ j, vf j < 18446744073709551616
  ct : FCst F
  tr : TyR F F.types.length
  rg : RgF F
  rk : Rank (grF F) rk
section
variable {N mg : Nat} {ρ : Rl} {w0 wz : World} {l : PL} {bs : List UInt8} {F : FS} {U : FV} {c : Nat} {V : CV} {gT gV : Nat} {vf rk : Nat → Nat}
/-- The checker's and the file's cells. -/
theorem LCx.chk (h : LCx N mg ρ w0 l bs F U c V gT gV vf rk) (hb : Below w0.heap.size w0 wz) : wz.cell? ⟨c, 0, none⟩ = some (.pointer (some ⟨l.f, 0, none⟩)) ∧ wz.cell? ⟨c, 4, none⟩ = some (.slice (some ⟨gT, 0, none⟩) F.types.length F.types.length) ∧ wz.cell? ⟨c, 7, none⟩ = some (.slice (some ⟨gV, 0, none⟩) F.exprs.length F.exprs.length) := by
  have m := h.m.below hb
  exact ⟨m.cells.1, by rw [← h.td]; exact m.cb.cell 4, by rw [← h.ev]; exact m.cb.cell 7⟩
theorem LCx.fil (h : LCx N mg ρ w0 l bs F U c V gT gV vf rk) (hb : Below w0.heap.size w0 wz) : wz.cell? ⟨l.f, 1, none⟩ = some U.d ∧ wz.cell? ⟨l.f, 2, none⟩ = some U.t ∧ wz.cell? ⟨l.f, 4, none⟩ = some U.f ∧ wz.cell? ⟨l.f, 5, none⟩ = some U.o := by
  have m := h.m.below hb
  exact ⟨m.fb.cell 1, m.fb.cell 2, m.fb.cell 4, m.fb.cell 5⟩
/-- A type's node. -/
theorem LCx.node (h : LCx N mg ρ w0 l bs F U c V gT gV vf rk) {r : Nat} {x : TN} (hx : F.types[r]? = some x) : ∃ gt qt, U.t = .slice (some ⟨gt, 0, none⟩) F.types.length qt ∧ ∀ wz, Below w0.heap.size w0 wz → ∀ j, j < 8 → wz.cell? ⟨gt, r * 8 + j, none⟩ = (tnC x)[j]? := by
  obtain ⟨ad, q, hu⟩ := h.m.fr.t.shape
  obtain ⟨gt, e, hlt, hc⟩ := h.m.typ hu hx
  subst e
  exact ⟨gt, q, hu, fun wz hb j hj => by rw [keepCell _ (hb.block gt hlt)]; exact hc j hj⟩
/-- What a name stands for has a lesser rank. -/
theorem LCx.less (h : LCx N mg ρ w0 l bs F U c V gT gV vf rk) {r i : Nat} {x : TN} {y : DN} (hx : F.types[r]? = some x) (h2 : x.form = 2) (hy : F.decls[i]? = some y) (h3 : y.tLo ≤ r) (h4 : r < y.tHi) : ∃ d : Nat, tDA F r = (d : Int) ∧ d < F.decls.length ∧ rk d < rk i ∧ ∃ z, F.decls[d]? = some z ∧ z.sort ≠ 0 := by
  have hlt := (List.getElem?_eq_some_iff.1 hx).1
  have hne := h.tr r x hlt hx h2
  have e : tDA F r = tDof F x := by unfold tDA; rw [hx]
  have e2 : ∃ d : Nat, tDof F x = (d : Int) ∧ ∃ z, F.decls[d]? = some z ∧ z.sort ≠ 0 := by
    revert hne
    unfold tDof
    rw [if_pos h2]
    cases hf : fstI F F.decls.length x.name with
    | none => intro hh; exact absurd rfl hh
    | some d =>
      obtain ⟨_, z, hz, _⟩ := fstI_some hf
      simp only [hz, Option.map_some]
      by_cases hs : z.sort = 0
      · simp [hs]
      · intro _
        refine ⟨d, ?_, z, hz, hs⟩
        rw [if_neg (by simpa using hs)]
  obtain ⟨d, e3, z, hz, hs⟩ := e2
  refine ⟨d, by rw [e, e3], (List.getElem?_eq_some_iff.1 hz).1, ?_, z, hz, hs⟩
  refine h.rk i d ?_
  rw [suc_get (grF_get hy)]
  unfold adjF
  refine List.mem_append_left _ (ptT_mem.2 ⟨r - y.tLo, by omega, ?_⟩)
  have : y.tLo + (r - y.tLo) = r := by omega
  rw [this, e, e3]
end
end Go.Proofs.Qxb6500883aGreatDoor
