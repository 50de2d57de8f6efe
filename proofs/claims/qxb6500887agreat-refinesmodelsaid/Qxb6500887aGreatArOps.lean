/- The script of the arena laws, read as a list of steps; zzSmall1; number. -/
import Derived.Test.Qxb6500887aGreatMem
import Derived.Test.Qxb6500887aGreatProg
import Derived.KernelRfl
import Derived.WalkKit
import Derived.WalkSpells
namespace Go.Proofs.Qxb6500887aGreat
open Go.RowKit
set_option linter.unusedSimpArgs false
set_option linter.unusedVariables false

structure AOp where
  kind : Int
  a : Int
  b : Int
  c : Int

def opCells (o : AOp) : List Value := [.int .u8 o.kind, .int .u64 o.a, .int .u64 o.b, .int .u64 o.c]
def U64 (a : Int) : Prop := 0 ≤ a ∧ a < 18446744073709551616
structure OpOk (o : AOp) : Prop where
  k0 : 0 ≤ o.kind
  k1 : o.kind < 256
  a : U64 o.a
  b : U64 o.b
  c : U64 o.c

def Script (w : World) (a : Option Addr) (n c : Nat) (l : List AOp) : Prop := RowOf w 4 opCells a n c l ∧ ∀ o ∈ l, OpOk o
theorem Script.below {w w' : World} {a : Option Addr} {n c : Nat} {l : List AOp} (h : Script w a n c l) (hb : Below w.heap.size w w') : Script w' a n c l := ⟨h.1.below hb, h.2⟩

theorem cells_op : Tryz.prog.cellsOf 31 = 4 := by kernel_rfl
theorem bytes_op : Tryz.prog.bytesOf 31 = 32 := by kernel_rfl
theorem cells_kind : Tryz.prog.cellsOf 28 = 1 := by kernel_rfl
theorem cells_u64 : Tryz.prog.cellsOf 29 = 1 := by kernel_rfl

theorem fit_u64 {n : Int} (h : (Lit.int .u64 n).wf = true) : U64 n := by
  simp [Lit.wf, IntKind.min, IntKind.max, IntKind.signed, IntKind.bits] at h
  unfold U64
  omega
theorem fit_u8 {n : Int} (h : (Lit.int .u8 n).wf = true) : 0 ≤ n ∧ n < 256 := by
  simp [Lit.wf, IntKind.min, IntKind.max, IntKind.signed, IntKind.bits] at h
  omega

section
variable {H : Type} {enc : TypeId × Value → H} {w : World} {base : Nat} {spare : Nat → Bool} {held : Bool}
set_option maxRecDepth 100000 in
theorem open_ops {fuel : Nat} {cs : List Value} {x : DataW H × List MemPlace} (h : DataW.trod enc Tryz.prog w base spare held fuel 22 cs = some x) (hz : Sz Tryz.prog 22 x.1) :
    ∃ a n c l, cs = [.slice a n c] ∧ Script w a n c l := by
  obtain ⟨a, n, c, rfl, hl, hm, hx⟩ := open_rows Tryz.underlying22 cells_op (by omega) (by rw [bytes_op]; decide) h hz
  have : Inhabited AOp := ⟨⟨0, 0, 0, 0⟩⟩
  obtain ⟨l, h1, h2⟩ := row_list (w := w) (α := AOp) (sz := 4) (a := a) (f := opCells) (q := OpOk) hl hm (fun i hi => by
    obtain ⟨b, off, ha, hb, cs', fl, y, hlen, hc, ht, hy⟩ := hx i hi
    obtain ⟨xs, m, _, rfl, _, hxs, hf⟩ := DataW.trod_struct Tryz.underlying31 ht
    match cs', hlen, xs, hxs with
    | [c0, c1, c2, c3], _, [y0, y1, y2, y3], _ =>
      have g0 : DataW.trod enc Tryz.prog w base spare held m 28 (([c0, c1, c2, c3].drop 0).take (Tryz.prog.cellsOf 28)) = some y0 := hf 0 _ rfl
      have g1 : DataW.trod enc Tryz.prog w base spare held m 29 (([c0, c1, c2, c3].drop 1).take (Tryz.prog.cellsOf 29)) = some y1 := hf 1 _ rfl
      have g2 : DataW.trod enc Tryz.prog w base spare held m 29 (([c0, c1, c2, c3].drop 2).take (Tryz.prog.cellsOf 29)) = some y2 := hf 2 _ rfl
      have g3 : DataW.trod enc Tryz.prog w base spare held m 29 (([c0, c1, c2, c3].drop 3).take (Tryz.prog.cellsOf 29)) = some y3 := hf 3 _ rfl
      rw [cells_kind] at g0
      rw [cells_u64] at g1 g2 g3
      obtain ⟨v0, e0, _, w0⟩ := DataW.trod_int Tryz.underlying28 g0
      obtain ⟨v1, e1, _, w1⟩ := DataW.trod_int Tryz.underlying29 g1
      obtain ⟨v2, e2, _, w2⟩ := DataW.trod_int Tryz.underlying29 g2
      obtain ⟨v3, e3, _, w3⟩ := DataW.trod_int Tryz.underlying29 g3
      simp at e0 e1 e2 e3
      subst e0 e1 e2 e3
      exact ⟨⟨v0, v1, v2, v3⟩, ⟨b, off, ha, hb, hc⟩, ⟨(fit_u8 w0).1, (fit_u8 w0).2, fit_u64 w1, fit_u64 w2, fit_u64 w3⟩⟩)
  exact ⟨a, n, c, l, rfl, h1, h2⟩
end

/-- All four cells of a step. -/
theorem Script.at {w : World} {a : Option Addr} {n c : Nat} {l : List AOp} (h : Script w a n c l) {k : Nat} (hk : k < n) :
    ∃ o, l[k]? = some o ∧ OpOk o ∧ ∃ b off, a = some ⟨b, off, none⟩ ∧ b < w.heap.size ∧ w.cell? ⟨b, off + k * 4, none⟩ = some (.int .u8 o.kind) ∧ w.cell? ⟨b, off + k * 4 + 1, none⟩ = some (.int .u64 o.a) ∧ w.cell? ⟨b, off + k * 4 + 2, none⟩ = some (.int .u64 o.b) ∧
      w.cell? ⟨b, off + k * 4 + 3, none⟩ = some (.int .u64 o.c) := by
  obtain ⟨o, ho, b, off, ha, hb, hc⟩ := h.1.cell hk
  exact ⟨o, ho, h.2 o (List.mem_of_getElem? ho), b, off, ha, hb, hc 0 (by omega), hc 1 (by omega), hc 2 (by omega), hc 3 (by omega)⟩

theorem small_walk (a : Option Addr) (n c : Nat) (hn : n ≤ 140737488351232) (w : World) :
    Calls Tryz.prog 10 #[.slice a n c] w fun e w' => e = .returned (.bool (decide (n ≤ 65536))) ∧ w' = w := by
  by_cases h : 65536 < n
  · rw [decide_eq_false (by omega)]
    go_enter Tryz.func10, Tryz.ntmps10
    go_wp2
    go_ret
    exact ⟨rfl, rfl⟩
  · rw [decide_eq_true (by omega)]
    go_enter Tryz.func10, Tryz.ntmps10
    go_wp2
    go_ret
    exact ⟨rfl, rfl⟩
end Go.Proofs.Qxb6500887aGreat
