/- The script of the 2Q laws, read as a list of steps; Entry, Config, zzSmall1, newReal. -/
import Derived.Test.Qxb6500892aDoorTqStW
namespace Go.Proofs.Qxb6500892aDoor
open Go.RowKit
set_option linter.unusedSimpArgs false
set_option linter.unusedVariables false

structure TOp where
  kind : Nat
  x : Int
  k : Nat
  B : Bool
  a : Int
  b : Int
  c : Int
  d : Int
def opCells (o : TOp) : List Value := [.int .u8 (o.kind : Int), .int .i64 o.x, .int .u64 (o.k : Int), .bool o.B, .int .i64 o.a, .int .i64 o.b, .int .i64 o.c, .int .i64 o.d]
def OpOk (o : TOp) : Prop := o.kind < 256 ∧ -9223372036854775808 ≤ o.x ∧ o.x ≤ 9223372036854775807
def Script (w : World) (a : Option Addr) (n c : Nat) (l : List TOp) : Prop := RowOf w 8 opCells a n c l ∧ ∀ o ∈ l, OpOk o
theorem Script.below {w w' : World} {a : Option Addr} {n c : Nat} {l : List TOp} (h : Script w a n c l) (hb : Below w.heap.size w w') : Script w' a n c l := ⟨h.1.below hb, h.2⟩
theorem Script.at {w : World} {a : Option Addr} {n c : Nat} {l : List TOp} (h : Script w a n c l) {i : Nat} (hi : i < n) :
    ∃ o, l[i]? = some o ∧ OpOk o ∧ ∃ b off, a = some ⟨b, off, none⟩ ∧ b < w.heap.size ∧ w.cell? ⟨b, off + i * 8, none⟩ = some (.int .u8 (o.kind : Int)) ∧ w.cell? ⟨b, off + i * 8 + 1, none⟩ = some (.int .i64 o.x) ∧ w.cell? ⟨b, off + i * 8 + 2, none⟩ = some (.int .u64 (o.k : Int)) ∧
      w.cell? ⟨b, off + i * 8 + 3, none⟩ = some (.bool o.B) ∧ w.cell? ⟨b, off + i * 8 + 4, none⟩ = some (.int .i64 o.a) ∧ w.cell? ⟨b, off + i * 8 + 5, none⟩ = some (.int .i64 o.b) ∧ w.cell? ⟨b, off + i * 8 + 6, none⟩ = some (.int .i64 o.c) ∧ w.cell? ⟨b, off + i * 8 + 7, none⟩ = some (.int .i64 o.d) := by
  obtain ⟨o, ho, b, off, ha, hb, hc⟩ := h.1.cell hi
  exact ⟨o, ho, h.2 o (List.mem_of_getElem? ho), b, off, ha, hb, by simpa [opCells] using hc 0 (by omega), by simpa [opCells] using hc 1 (by omega), by simpa [opCells] using hc 2 (by omega), by simpa [opCells] using hc 3 (by omega), by simpa [opCells] using hc 4 (by omega), by simpa [opCells] using hc 5 (by omega), by simpa [opCells] using hc 6 (by omega), by simpa [opCells] using hc 7 (by omega)⟩
theorem cells_op : Tryd.prog.cellsOf 33 = 8 := by kernel_rfl
theorem bytes_op0 : Tryd.prog.bytesOf 33 = 64 := by kernel_rfl
theorem bytes_op : 0 < Tryd.prog.bytesOf 33 := by rw [bytes_op0]; decide
theorem cells_kind : Tryd.prog.cellsOf 28 = 1 := by kernel_rfl
theorem cells_int : Tryd.prog.cellsOf 3 = 1 := by kernel_rfl
theorem cells_u64 : Tryd.prog.cellsOf 29 = 1 := by kernel_rfl
theorem cells_bool : Tryd.prog.cellsOf 4 = 1 := by kernel_rfl
theorem cells_cfg : Tryd.prog.cellsOf 31 = 4 := by kernel_rfl
theorem fit_u64 {n : Int} (h : (Lit.int .u64 n).wf = true) : 0 ≤ n ∧ n < 18446744073709551616 := by
  simp [Lit.wf, IntKind.min, IntKind.max, IntKind.signed, IntKind.bits] at h
  omega
theorem fit_i64 {n : Int} (h : (Lit.int .i64 n).wf = true) : -9223372036854775808 ≤ n ∧ n ≤ 9223372036854775807 := by
  simp [Lit.wf, IntKind.min, IntKind.max, IntKind.signed, IntKind.bits] at h
  omega
theorem fit_u8 {n : Int} (h : (Lit.int .u8 n).wf = true) : 0 ≤ n ∧ n < 256 := by
  simp [Lit.wf, IntKind.min, IntKind.max, IntKind.signed, IntKind.bits] at h
  omega
section
variable {H : Type} {enc : TypeId × Value → H} {w : World} {base : Nat} {spare : Nat → Bool} {held : Bool}
set_option maxRecDepth 100000 in
theorem open_ops {fuel : Nat} {cs : List Value} {x : DataW H × List MemPlace} (h : DataW.trod enc Tryd.prog w base spare held fuel 22 cs = some x) (hz : Sz Tryd.prog 22 x.1) :
    ∃ a n c l, cs = [.slice a n c] ∧ Script w a n c l := by
  obtain ⟨a, n, c, rfl, hl, hm, hx⟩ := open_rows Tryd.underlying22 cells_op (by omega) bytes_op h hz
  have : Inhabited TOp := ⟨⟨0, 0, 0, false, 0, 0, 0, 0⟩⟩
  obtain ⟨l, h1, h2⟩ := row_list (w := w) (α := TOp) (sz := 8) (a := a) (f := opCells) (q := OpOk) hl hm (fun i hi => by
    obtain ⟨b, off, ha, hb, cs', fl, y, hlen, hc, ht, hy⟩ := hx i hi
    obtain ⟨xs, m, _, rfl, _, hxs, hf⟩ := DataW.trod_struct Tryd.underlying33 ht
    match cs', hlen, xs, hxs with
    | [c0, c1, c2, c3, c4, c5, c6, c7], _, [y0, y1, y2, y3, y4], _ =>
      have g0 : DataW.trod enc Tryd.prog w base spare held m 28 (([c0, c1, c2, c3, c4, c5, c6, c7].drop 0).take (Tryd.prog.cellsOf 28)) = some y0 := hf 0 _ rfl
      have g1 : DataW.trod enc Tryd.prog w base spare held m 3 (([c0, c1, c2, c3, c4, c5, c6, c7].drop 1).take (Tryd.prog.cellsOf 3)) = some y1 := hf 1 _ rfl
      have g2 : DataW.trod enc Tryd.prog w base spare held m 29 (([c0, c1, c2, c3, c4, c5, c6, c7].drop 2).take (Tryd.prog.cellsOf 29)) = some y2 := hf 2 _ rfl
      have g3 : DataW.trod enc Tryd.prog w base spare held m 4 (([c0, c1, c2, c3, c4, c5, c6, c7].drop 3).take (Tryd.prog.cellsOf 4)) = some y3 := hf 3 _ rfl
      have g4 : DataW.trod enc Tryd.prog w base spare held m 31 (([c0, c1, c2, c3, c4, c5, c6, c7].drop 4).take (Tryd.prog.cellsOf 31)) = some y4 := hf 4 _ rfl
      rw [cells_kind] at g0
      rw [cells_int] at g1
      rw [cells_u64] at g2
      rw [cells_bool] at g3
      rw [cells_cfg] at g4
      obtain ⟨v0, e0, _, w0⟩ := DataW.trod_int Tryd.underlying28 g0
      obtain ⟨v1, e1, _, w1⟩ := DataW.trod_int Tryd.underlying3 g1
      obtain ⟨v2, e2, _, w2⟩ := DataW.trod_int Tryd.underlying29 g2
      obtain ⟨v3, e3, _⟩ := DataW.trod_bool Tryd.underlying4 g3
      obtain ⟨zs, m2, _, _, _, hzs, hg⟩ := DataW.trod_struct Tryd.underlying31 g4
      match zs, hzs with
      | [z0, z1, z2, z3], _ =>
        have k0 : DataW.trod enc Tryd.prog w base spare held m2 3 (([c4, c5, c6, c7].drop 0).take (Tryd.prog.cellsOf 3)) = some z0 := hg 0 _ rfl
        have k1 : DataW.trod enc Tryd.prog w base spare held m2 3 (([c4, c5, c6, c7].drop 1).take (Tryd.prog.cellsOf 3)) = some z1 := hg 1 _ rfl
        have k2 : DataW.trod enc Tryd.prog w base spare held m2 3 (([c4, c5, c6, c7].drop 2).take (Tryd.prog.cellsOf 3)) = some z2 := hg 2 _ rfl
        have k3 : DataW.trod enc Tryd.prog w base spare held m2 3 (([c4, c5, c6, c7].drop 3).take (Tryd.prog.cellsOf 3)) = some z3 := hg 3 _ rfl
        rw [cells_int] at k0 k1 k2 k3
        obtain ⟨v4, e4, _, _⟩ := DataW.trod_int Tryd.underlying3 k0
        obtain ⟨v5, e5, _, _⟩ := DataW.trod_int Tryd.underlying3 k1
        obtain ⟨v6, e6, _, _⟩ := DataW.trod_int Tryd.underlying3 k2
        obtain ⟨v7, e7, _, _⟩ := DataW.trod_int Tryd.underlying3 k3
        simp at e0 e1 e2 e3 e4 e5 e6 e7
        obtain ⟨n0, rfl⟩ : ∃ n0 : Nat, v0 = (n0 : Int) := ⟨v0.toNat, by have := fit_u8 w0; omega⟩
        obtain ⟨n2, rfl⟩ : ∃ n2 : Nat, v2 = (n2 : Int) := ⟨v2.toNat, by have := fit_u64 w2; omega⟩
        subst e0 e1 e2 e3 e4 e5 e6 e7
        exact ⟨⟨n0, v1, n2, v3, v4, v5, v6, v7⟩, ⟨b, off, ha, hb, hc⟩, by have := (fit_u8 w0).2; show n0 < 256; omega, (fit_i64 w1).1, (fit_i64 w1).2⟩)
  exact ⟨a, n, c, l, rfl, h1, h2⟩
end
set_option maxRecDepth 100000 in
theorem small_walk (a : Option Addr) (n c : Nat) (hn : n ≤ maxLen) (w : World) :
    Calls Tryd.prog 7 #[.slice a n c] w fun e w' => e = .returned (.bool (decide (n ≤ 65536))) ∧ w' = w := by
  unfold maxLen at hn
  by_cases h : n ≤ 65536
  · have hd : decide (n ≤ 65536) = true := decide_eq_true h
    have d1 : decide ((n : Int) > 65536) = false := decide_eq_false (by omega)
    have d2 : decide ((65536 : Int) < (n : Int)) = false := decide_eq_false (by omega)
    go_enter Tryd.func7, Tryd.ntmps7
    go_wp2
    go_ret
    exact ⟨by rw [hd]; rfl, rfl⟩
  · have hd : decide (n ≤ 65536) = false := decide_eq_false h
    have d1 : decide ((n : Int) > 65536) = true := decide_eq_true (by omega)
    have d2 : decide ((65536 : Int) < (n : Int)) = true := decide_eq_true (by omega)
    go_enter Tryd.func7, Tryd.ntmps7
    go_wp2
    go_ret
    exact ⟨by rw [hd]; rfl, rfl⟩
end Go.Proofs.Qxb6500892aDoor
