/- The script of the text laws, read as a list of steps. -/
import Derived.Test.Qxb6500890aDoorMem
import Derived.Test.Qxb6500890aDoorProg
import Derived.KernelRfl
namespace Go.Proofs.Qxb6500890aDoor
open Go.RowKit

structure TOp where
  kind : Int
  a : Int
  b : Int
  c : Int
  s : ByteArray
  t : ByteArray
  la : Option Addr
  ln : Nat
  lc : Nat
  list : List ByteArray
  ra : Option Addr
  rn : Nat
  rc : Nat
  recs : List (ByteArray × Int)

def strCell (s : ByteArray) : List Value := [.string s]
def recCells (r : ByteArray × Int) : List Value := [.string r.1, .int .i64 r.2]
def opCells (o : TOp) : List Value := [.int .i64 o.kind, .int .i64 o.a, .int .i64 o.b, .int .i64 o.c, .string o.s, .string o.t, .slice o.la o.ln o.lc, .slice o.ra o.rn o.rc]

def Fit (a : Int) : Prop := -9223372036854775808 ≤ a ∧ a ≤ 9223372036854775807

structure OpOk (w : World) (o : TOp) : Prop where
  fk : Fit o.kind
  fa : Fit o.a
  fb : Fit o.b
  fc : Fit o.c
  fs : o.s.size ≤ 140737488351232
  ft : o.t.size ≤ 140737488351232
  list : RowOf w 1 strCell o.la o.ln o.lc o.list
  recs : RowOf w 2 recCells o.ra o.rn o.rc o.recs
  fl : ∀ s ∈ o.list, s.size ≤ 140737488351232
  fr : ∀ r ∈ o.recs, r.1.size ≤ 140737488351232 ∧ Fit r.2

theorem OpOk.below {w w' : World} {o : TOp} (h : OpOk w o) (hb : Below w.heap.size w w') : OpOk w' o :=
  ⟨h.fk, h.fa, h.fb, h.fc, h.fs, h.ft, h.list.below hb, h.recs.below hb, h.fl, h.fr⟩

def Script (w : World) (a : Option Addr) (n c : Nat) (l : List TOp) : Prop :=
  RowOf w 8 opCells a n c l ∧ ∀ o ∈ l, OpOk w o

theorem Script.below {w w' : World} {a : Option Addr} {n c : Nat} {l : List TOp} (h : Script w a n c l) (hb : Below w.heap.size w w') : Script w' a n c l :=
  ⟨h.1.below hb, fun o ho => (h.2 o ho).below hb⟩

theorem cells_op : Tryd.prog.cellsOf 36 = 8 := by kernel_rfl
theorem bytes_op : Tryd.prog.bytesOf 36 = 112 := by kernel_rfl
theorem bytes_keyed : Tryd.prog.bytesOf 49 = 24 := by kernel_rfl
theorem bytes_string : Tryd.prog.bytesOf 9 = 16 := by kernel_rfl
theorem cells_keyed : Tryd.prog.cellsOf 49 = 2 := by kernel_rfl
theorem cells_string : Tryd.prog.cellsOf 9 = 1 := by kernel_rfl
theorem cells_int64 : Tryd.prog.cellsOf 2 = 1 := by kernel_rfl
theorem cells_kind : Tryd.prog.cellsOf 32 = 1 := by kernel_rfl
theorem cells_strs : Tryd.prog.cellsOf 33 = 1 := by kernel_rfl
theorem cells_recs : Tryd.prog.cellsOf 34 = 1 := by kernel_rfl

theorem fit_i64 {n : Int} (h : (Lit.int .i64 n).wf = true) : Fit n := by
  simp [Lit.wf, IntKind.min, IntKind.max, IntKind.signed, IntKind.bits] at h
  unfold Fit
  omega

section
variable {H : Type} {enc : TypeId × Value → H} {w : World} {base : Nat} {spare : Nat → Bool} {held : Bool}

set_option maxRecDepth 100000 in
theorem open_strs' {fuel : Nat} {cs : List Value} {x : DataW H × List MemPlace} (h : DataW.trod enc Tryd.prog w base spare held fuel 33 cs = some x) (hz : Sz Tryd.prog 33 x.1) :
    ∃ a n c l, cs = [.slice a n c] ∧ RowOf w 1 strCell a n c l ∧ ∀ s ∈ l, s.size ≤ 140737488351232 := by
  obtain ⟨a, n, c, rfl, hl, hm, hx⟩ := open_rows Tryd.underlying33 cells_string (by omega) (by rw [bytes_string]; decide) h hz
  obtain ⟨l, h1, h2⟩ := row_list (w := w) (α := ByteArray) (sz := 1) (a := a) (f := strCell) (q := fun s => s.size ≤ 140737488351232) hl hm (fun i hi => by
    obtain ⟨b, off, ha, hb, cs', fl, y, hlen, hc, ht, hy⟩ := hx i hi
    obtain ⟨s, rfl, rfl, _⟩ := DataW.trod_string Tryd.underlying9 ht
    exact ⟨s, ⟨b, off, ha, hb, hc⟩, hy.string⟩)
  exact ⟨a, n, c, l, rfl, h1, h2⟩

set_option maxRecDepth 100000 in
theorem open_recs {fuel : Nat} {cs : List Value} {x : DataW H × List MemPlace} (h : DataW.trod enc Tryd.prog w base spare held fuel 34 cs = some x) (hz : Sz Tryd.prog 34 x.1) :
    ∃ a n c l, cs = [.slice a n c] ∧ RowOf w 2 recCells a n c l ∧ ∀ r ∈ l, r.1.size ≤ 140737488351232 ∧ Fit r.2 := by
  obtain ⟨a, n, c, rfl, hl, hm, hx⟩ := open_rows Tryd.underlying34 cells_keyed (by omega) (by rw [bytes_keyed]; decide) h hz
  obtain ⟨l, h1, h2⟩ := row_list (w := w) (α := ByteArray × Int) (sz := 2) (a := a) (f := recCells) (q := fun r => r.1.size ≤ 140737488351232 ∧ Fit r.2) hl hm (fun i hi => by
    obtain ⟨b, off, ha, hb, cs', fl, y, hlen, hc, ht, hy⟩ := hx i hi
    obtain ⟨xs, m, _, rfl, _, hxs, hf⟩ := DataW.trod_struct Tryd.underlying49 ht
    match cs', hlen, xs, hxs with
    | [c0, c1], _, [y0, y1], _ =>
      have g0 : DataW.trod enc Tryd.prog w base spare held m 9 (([c0, c1].drop 0).take (Tryd.prog.cellsOf 9)) = some y0 := hf 0 _ rfl
      have g1 : DataW.trod enc Tryd.prog w base spare held m 2 (([c0, c1].drop 1).take (Tryd.prog.cellsOf 2)) = some y1 := hf 1 _ rfl
      rw [cells_string] at g0
      rw [cells_int64] at g1
      obtain ⟨s, e0, q0, _⟩ := DataW.trod_string Tryd.underlying9 g0
      have z0 : Sz Tryd.prog 9 y0.1 := hy.field Tryd.underlying49 (i := 0) rfl rfl
      rw [q0] at z0
      obtain ⟨v, e1, _, hv⟩ := DataW.trod_int Tryd.underlying2 g1
      simp at e0 e1
      subst e0 e1
      exact ⟨(s, v), ⟨b, off, ha, hb, hc⟩, z0.string, fit_i64 hv⟩)
  exact ⟨a, n, c, l, rfl, h1, h2⟩

set_option maxRecDepth 100000 in
theorem open_ops {fuel : Nat} {cs : List Value} {x : DataW H × List MemPlace} (h : DataW.trod enc Tryd.prog w base spare held fuel 22 cs = some x) (hz : Sz Tryd.prog 22 x.1) :
    ∃ a n c l, cs = [.slice a n c] ∧ Script w a n c l := by
  obtain ⟨a, n, c, rfl, hl, hm, hx⟩ := open_rows Tryd.underlying22 cells_op (by omega) (by rw [bytes_op]; decide) h hz
  have : Inhabited TOp := ⟨⟨0, 0, 0, 0, ByteArray.empty, ByteArray.empty, .none, 0, 0, [], .none, 0, 0, []⟩⟩
  obtain ⟨l, h1, h2⟩ := row_list (w := w) (α := TOp) (sz := 8) (a := a) (f := opCells) (q := OpOk w) hl hm (fun i hi => by
    obtain ⟨b, off, ha, hb, cs', fl, y, hlen, hc, ht, hy⟩ := hx i hi
    obtain ⟨xs, m, _, rfl, _, hxs, hf⟩ := DataW.trod_struct Tryd.underlying36 ht
    match cs', hlen, xs, hxs with
    | [c0, c1, c2, c3, c4, c5, c6, c7], _, [y0, y1, y2, y3, y4, y5, y6, y7], _ =>
      have g0 : DataW.trod enc Tryd.prog w base spare held m 32 (([c0, c1, c2, c3, c4, c5, c6, c7].drop 0).take (Tryd.prog.cellsOf 32)) = some y0 := hf 0 _ rfl
      rw [cells_kind] at g0
      have g1 : DataW.trod enc Tryd.prog w base spare held m 2 (([c0, c1, c2, c3, c4, c5, c6, c7].drop 1).take (Tryd.prog.cellsOf 2)) = some y1 := hf 1 _ rfl
      rw [cells_int64] at g1
      have g2 : DataW.trod enc Tryd.prog w base spare held m 2 (([c0, c1, c2, c3, c4, c5, c6, c7].drop 2).take (Tryd.prog.cellsOf 2)) = some y2 := hf 2 _ rfl
      rw [cells_int64] at g2
      have g3 : DataW.trod enc Tryd.prog w base spare held m 2 (([c0, c1, c2, c3, c4, c5, c6, c7].drop 3).take (Tryd.prog.cellsOf 2)) = some y3 := hf 3 _ rfl
      rw [cells_int64] at g3
      have g4 : DataW.trod enc Tryd.prog w base spare held m 9 (([c0, c1, c2, c3, c4, c5, c6, c7].drop 4).take (Tryd.prog.cellsOf 9)) = some y4 := hf 4 _ rfl
      rw [cells_string] at g4
      have g5 : DataW.trod enc Tryd.prog w base spare held m 9 (([c0, c1, c2, c3, c4, c5, c6, c7].drop 5).take (Tryd.prog.cellsOf 9)) = some y5 := hf 5 _ rfl
      rw [cells_string] at g5
      have g6 : DataW.trod enc Tryd.prog w base spare held m 33 (([c0, c1, c2, c3, c4, c5, c6, c7].drop 6).take (Tryd.prog.cellsOf 33)) = some y6 := hf 6 _ rfl
      rw [cells_strs] at g6
      have g7 : DataW.trod enc Tryd.prog w base spare held m 34 (([c0, c1, c2, c3, c4, c5, c6, c7].drop 7).take (Tryd.prog.cellsOf 34)) = some y7 := hf 7 _ rfl
      rw [cells_recs] at g7
      obtain ⟨v0, e0, _, w0⟩ := DataW.trod_int Tryd.underlying32 g0
      obtain ⟨v1, e1, _, w1⟩ := DataW.trod_int Tryd.underlying2 g1
      obtain ⟨v2, e2, _, w2⟩ := DataW.trod_int Tryd.underlying2 g2
      obtain ⟨v3, e3, _, w3⟩ := DataW.trod_int Tryd.underlying2 g3
      obtain ⟨v4, e4, q4, _⟩ := DataW.trod_string Tryd.underlying9 g4
      have z4 : Sz Tryd.prog 9 y4.1 := hy.field Tryd.underlying36 (i := 4) rfl rfl
      rw [q4] at z4
      obtain ⟨v5, e5, q5, _⟩ := DataW.trod_string Tryd.underlying9 g5
      have z5 : Sz Tryd.prog 9 y5.1 := hy.field Tryd.underlying36 (i := 5) rfl rfl
      rw [q5] at z5
      obtain ⟨la, ln, lc, ll, e6, w6, u6⟩ := open_strs' g6 (hy.field Tryd.underlying36 (i := 6) rfl rfl)
      obtain ⟨ra, rn, rc, rl, e7, w7, u7⟩ := open_recs g7 (hy.field Tryd.underlying36 (i := 7) rfl rfl)
      simp at e0 e1 e2 e3 e4 e5 e6 e7
      subst e0 e1 e2 e3 e4 e5 e6 e7
      exact ⟨⟨v0, v1, v2, v3, v4, v5, la, ln, lc, ll, ra, rn, rc, rl⟩, ⟨b, off, ha, hb, hc⟩, ⟨fit_i64 w0, fit_i64 w1, fit_i64 w2, fit_i64 w3, z4.string, z5.string, w6, w7, u6, u7⟩⟩)
  exact ⟨a, n, c, l, rfl, h1, h2⟩

end
end Go.Proofs.Qxb6500890aDoor
