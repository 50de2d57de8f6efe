/- The script of the class laws, read as a list of steps. -/
import Derived.Test.Qxb6500884aMem
import Derived.Test.Qxb6500884aProg
import Derived.Test.Qxb6500884aDrew
import Derived.KernelRfl
import Derived.WalkKit
import Derived.WalkSpells
namespace Go.Proofs.Qxb6500884a
open Go.RowKit
set_option linter.unusedSimpArgs false
set_option linter.unusedVariables false

def Fit (a : Int) : Prop := -9223372036854775808 ≤ a ∧ a ≤ 9223372036854775807
/-- An interval's cells; an int's cell. -/
def ivC (p : Int × Int) : List Value := [.int .i64 p.1, .int .i64 p.2]
def inC (x : Int) : List Value := [.int .i64 x]
structure COp where
  kind : Int
  a : Int
  b : Int
  ia : Option Addr
  inn : Nat
  ic : Nat
  iv : List (Int × Int)
  ra : Option Addr
  rn : Nat
  rc : Nat
  rg : List Int
def opCells (o : COp) : List Value := [.int .i64 o.kind, .int .i64 o.a, .int .i64 o.b, .slice o.ia o.inn o.ic, .slice o.ra o.rn o.rc]
/-- A row of intervals, each within the ints. -/
def IvRow (w : World) (a : Option Addr) (n c : Nat) (l : List (Int × Int)) : Prop := RowOf w 2 ivC a n c l ∧ ∀ p ∈ l, Fit p.1 ∧ Fit p.2
def InRow (w : World) (a : Option Addr) (n c : Nat) (l : List Int) : Prop := RowOf w 1 inC a n c l ∧ ∀ p ∈ l, Fit p
theorem IvRow.below {w w' : World} {a : Option Addr} {n c : Nat} {l : List (Int × Int)} (h : IvRow w a n c l) (hb : Below w.heap.size w w') : IvRow w' a n c l := ⟨h.1.below hb, h.2⟩
theorem InRow.below {w w' : World} {a : Option Addr} {n c : Nat} {l : List Int} (h : InRow w a n c l) (hb : Below w.heap.size w w') : InRow w' a n c l := ⟨h.1.below hb, h.2⟩
theorem IvRow.len {w : World} {a : Option Addr} {n c : Nat} {l : List (Int × Int)} (h : IvRow w a n c l) : l.length = n := h.1.1
theorem IvRow.get {w : World} {a : Option Addr} {n c : Nat} {l : List (Int × Int)} (h : IvRow w a n c l) {k : Nat} (hk : k < n) :
    ∃ p, l[k]? = some p ∧ Fit p.1 ∧ Fit p.2 ∧ ∃ b off, a = some ⟨b, off, none⟩ ∧ b < w.heap.size ∧ w.cell? ⟨b, off + k * 2, none⟩ = some (.int .i64 p.1) ∧ w.cell? ⟨b, off + k * 2 + 1, none⟩ = some (.int .i64 p.2) := by
  obtain ⟨p, hp, b, off, ha, hb, hc⟩ := h.1.cell hk
  have hf := h.2 p (List.mem_of_getElem? hp)
  exact ⟨p, hp, hf.1, hf.2, b, off, ha, hb, by simpa [ivC] using hc 0 (by omega), by simpa [ivC] using hc 1 (by omega)⟩
structure OpOk (w : World) (o : COp) : Prop where
  fk : Fit o.kind
  fa : Fit o.a
  fb : Fit o.b
  iv : IvRow w o.ia o.inn o.ic o.iv
  rg : InRow w o.ra o.rn o.rc o.rg
theorem OpOk.below {w w' : World} {o : COp} (h : OpOk w o) (hb : Below w.heap.size w w') : OpOk w' o := ⟨h.fk, h.fa, h.fb, h.iv.below hb, h.rg.below hb⟩
def Script (w : World) (a : Option Addr) (n c : Nat) (l : List COp) : Prop := RowOf w 5 opCells a n c l ∧ ∀ o ∈ l, OpOk w o
theorem Script.below {w w' : World} {a : Option Addr} {n c : Nat} {l : List COp} (h : Script w a n c l) (hb : Below w.heap.size w w') : Script w' a n c l := ⟨h.1.below hb, fun o ho => (h.2 o ho).below hb⟩
theorem Script.at {w : World} {a : Option Addr} {n c : Nat} {l : List COp} (h : Script w a n c l) {i : Nat} (hi : i < n) :
    ∃ o, l[i]? = some o ∧ OpOk w o ∧ ∃ b off, a = some ⟨b, off, none⟩ ∧ b < w.heap.size ∧ w.cell? ⟨b, off + i * 5, none⟩ = some (.int .i64 o.kind) ∧ w.cell? ⟨b, off + i * 5 + 1, none⟩ = some (.int .i64 o.a) ∧ w.cell? ⟨b, off + i * 5 + 2, none⟩ = some (.int .i64 o.b) ∧
      w.cell? ⟨b, off + i * 5 + 3, none⟩ = some (.slice o.ia o.inn o.ic) ∧ w.cell? ⟨b, off + i * 5 + 4, none⟩ = some (.slice o.ra o.rn o.rc) := by
  obtain ⟨o, ho, b, off, ha, hb, hc⟩ := h.1.cell hi
  exact ⟨o, ho, h.2 o (List.mem_of_getElem? ho), b, off, ha, hb, by simpa [opCells] using hc 0 (by omega), by simpa [opCells] using hc 1 (by omega), by simpa [opCells] using hc 2 (by omega), by simpa [opCells] using hc 3 (by omega), by simpa [opCells] using hc 4 (by omega)⟩
theorem cells_op : Try.prog.cellsOf 28 = 5 := by kernel_rfl
theorem bytes_op0 : Try.prog.bytesOf 28 = 72 := by kernel_rfl
theorem bytes_op : 0 < Try.prog.bytesOf 28 := by rw [bytes_op0]; decide
theorem cells_kind : Try.prog.cellsOf 24 = 1 := by kernel_rfl
theorem cells_int : Try.prog.cellsOf 3 = 1 := by kernel_rfl
theorem bytes_int : Try.prog.bytesOf 3 = 8 := by kernel_rfl
theorem cells_iv : Try.prog.cellsOf 67 = 2 := by kernel_rfl
theorem bytes_iv : Try.prog.bytesOf 67 = 16 := by kernel_rfl
theorem cells_ivs : Try.prog.cellsOf 25 = 1 := by kernel_rfl
theorem cells_ints : Try.prog.cellsOf 26 = 1 := by kernel_rfl
theorem fit_i64 {n : Int} (h : (Lit.int .i64 n).wf = true) : Fit n := by
  simp [Lit.wf, IntKind.min, IntKind.max, IntKind.signed, IntKind.bits] at h
  unfold Fit
  omega
section
variable {H : Type} {enc : TypeId × Value → H} {w : World} {base : Nat} {spare : Nat → Bool} {held : Bool}
set_option maxRecDepth 100000 in
theorem open_ints {fuel : Nat} {cs : List Value} {x : DataW H × List MemPlace} (h : DataW.trod enc Try.prog w base spare held fuel 26 cs = some x) (hz : Sz Try.prog 26 x.1) :
    ∃ a n c l, cs = [.slice a n c] ∧ InRow w a n c l := by
  obtain ⟨a, n, c, rfl, hl, hm, hx⟩ := open_rows Try.underlying26 cells_int (by omega) (by rw [bytes_int]; decide) h hz
  obtain ⟨l, h1, h2⟩ := row_list (w := w) (α := Int) (sz := 1) (a := a) (f := inC) (q := Fit) hl hm (fun i hi => by
    obtain ⟨b, off, ha, hb, cs', fl, y, hlen, hc, ht, hy⟩ := hx i hi
    obtain ⟨v, e, _, hv⟩ := DataW.trod_int Try.underlying3 ht
    exact ⟨v, ⟨b, off, ha, hb, fun j hj => by rw [hc j hj, e]; rfl⟩, fit_i64 hv⟩)
  exact ⟨a, n, c, l, rfl, h1, h2⟩
set_option maxRecDepth 100000 in
theorem open_ivs {fuel : Nat} {cs : List Value} {x : DataW H × List MemPlace} (h : DataW.trod enc Try.prog w base spare held fuel 25 cs = some x) (hz : Sz Try.prog 25 x.1) :
    ∃ a n c l, cs = [.slice a n c] ∧ IvRow w a n c l := by
  obtain ⟨a, n, c, rfl, hl, hm, hx⟩ := open_rows Try.underlying25 cells_iv (by omega) (by rw [bytes_iv]; decide) h hz
  obtain ⟨l, h1, h2⟩ := row_list (w := w) (α := Int × Int) (sz := 2) (a := a) (f := ivC) (q := fun p => Fit p.1 ∧ Fit p.2) hl hm (fun i hi => by
    obtain ⟨b, off, ha, hb, cs', fl, y, hlen, hc, ht, hy⟩ := hx i hi
    obtain ⟨xs, m, _, rfl, _, hxs, hf⟩ := DataW.trod_struct Try.underlying67 ht
    match cs', hlen, xs, hxs with
    | [c0, c1], _, [y0, y1], _ =>
      have g0 : DataW.trod enc Try.prog w base spare held m 3 (([c0, c1].drop 0).take (Try.prog.cellsOf 3)) = some y0 := hf 0 _ rfl
      have g1 : DataW.trod enc Try.prog w base spare held m 3 (([c0, c1].drop 1).take (Try.prog.cellsOf 3)) = some y1 := hf 1 _ rfl
      rw [cells_int] at g0 g1
      obtain ⟨u, e0, _, hu⟩ := DataW.trod_int Try.underlying3 g0
      obtain ⟨v, e1, _, hv⟩ := DataW.trod_int Try.underlying3 g1
      simp at e0 e1
      subst e0 e1
      exact ⟨(u, v), ⟨b, off, ha, hb, hc⟩, fit_i64 hu, fit_i64 hv⟩)
  exact ⟨a, n, c, l, rfl, h1, h2⟩
set_option maxRecDepth 100000 in
theorem open_ops {fuel : Nat} {cs : List Value} {x : DataW H × List MemPlace} (h : DataW.trod enc Try.prog w base spare held fuel 22 cs = some x) (hz : Sz Try.prog 22 x.1) :
    ∃ a n c l, cs = [.slice a n c] ∧ Script w a n c l := by
  obtain ⟨a, n, c, rfl, hl, hm, hx⟩ := open_rows Try.underlying22 cells_op (by omega) bytes_op h hz
  have : Inhabited COp := ⟨⟨0, 0, 0, none, 0, 0, [], none, 0, 0, []⟩⟩
  obtain ⟨l, h1, h2⟩ := row_list (w := w) (α := COp) (sz := 5) (a := a) (f := opCells) (q := OpOk w) hl hm (fun i hi => by
    obtain ⟨b, off, ha, hb, cs', fl, y, hlen, hc, ht, hy⟩ := hx i hi
    obtain ⟨xs, m, _, rfl, _, hxs, hf⟩ := DataW.trod_struct Try.underlying28 ht
    match cs', hlen, xs, hxs with
    | [c0, c1, c2, c3, c4], _, [y0, y1, y2, y3, y4], _ =>
      have g0 : DataW.trod enc Try.prog w base spare held m 24 (([c0, c1, c2, c3, c4].drop 0).take (Try.prog.cellsOf 24)) = some y0 := hf 0 _ rfl
      have g1 : DataW.trod enc Try.prog w base spare held m 3 (([c0, c1, c2, c3, c4].drop 1).take (Try.prog.cellsOf 3)) = some y1 := hf 1 _ rfl
      have g2 : DataW.trod enc Try.prog w base spare held m 3 (([c0, c1, c2, c3, c4].drop 2).take (Try.prog.cellsOf 3)) = some y2 := hf 2 _ rfl
      have g3 : DataW.trod enc Try.prog w base spare held m 25 (([c0, c1, c2, c3, c4].drop 3).take (Try.prog.cellsOf 25)) = some y3 := hf 3 _ rfl
      have g4 : DataW.trod enc Try.prog w base spare held m 26 (([c0, c1, c2, c3, c4].drop 4).take (Try.prog.cellsOf 26)) = some y4 := hf 4 _ rfl
      rw [cells_kind] at g0
      rw [cells_int] at g1 g2
      rw [cells_ivs] at g3
      rw [cells_ints] at g4
      obtain ⟨v0, e0, _, w0⟩ := DataW.trod_int Try.underlying24 g0
      obtain ⟨v1, e1, _, w1⟩ := DataW.trod_int Try.underlying3 g1
      obtain ⟨v2, e2, _, w2⟩ := DataW.trod_int Try.underlying3 g2
      obtain ⟨a3, n3, k3, l3, e3, r3⟩ := open_ivs g3 (hy.field Try.underlying28 (i := 3) rfl rfl)
      obtain ⟨a4, n4, k4, l4, e4, r4⟩ := open_ints g4 (hy.field Try.underlying28 (i := 4) rfl rfl)
      simp at e0 e1 e2 e3 e4
      subst e0 e1 e2 e3 e4
      exact ⟨⟨v0, v1, v2, a3, n3, k3, l3, a4, n4, k4, l4⟩, ⟨b, off, ha, hb, hc⟩, ⟨fit_i64 w0, fit_i64 w1, fit_i64 w2, r3, r4⟩⟩)
  exact ⟨a, n, c, l, rfl, h1, h2⟩
end
end Go.Proofs.Qxb6500884a
