/- The script, read as a list of steps; the law's world behind k steps. -/
import Derived.Test.Qxb6500888aBaN2
import Derived.Test.Qxb6500888aMem
namespace Go.Proofs.Qxb6500888a
open Go.RowKit
set_option linter.unusedSimpArgs false
set_option linter.unusedVariables false

structure OpB (o : OpP) : Prop where
  k : o.kind < 256
  m : o.m < 256
  a : o.a < 18446744073709551616
  b : o.b < 18446744073709551616
  c : o.c < 18446744073709551616
def Script (w : World) (a : Option Addr) (n c : Nat) (l : List OpP) : Prop := RowOf w 5 opC a n c l ∧ ∀ o ∈ l, OpB o
theorem Script.below {w w' : World} {a : Option Addr} {n c : Nat} {l : List OpP} (h : Script w a n c l) (hb : Below w.heap.size w w') : Script w' a n c l := ⟨h.1.below hb, h.2⟩
theorem cells_op : Try.prog.cellsOf 31 = 5 := by kernel_rfl
theorem bytes_op : Try.prog.bytesOf 31 = 32 := by kernel_rfl
theorem cells_kind : Try.prog.cellsOf 28 = 1 := by kernel_rfl
theorem cells_u8 : Try.prog.cellsOf 5 = 1 := by kernel_rfl
theorem cells_u64 : Try.prog.cellsOf 29 = 1 := by kernel_rfl
theorem info_op : (Try.prog.info? 31).map (·.size) = some 5 := by kernel_rfl
theorem fit_u64 {n : Int} (h : (Lit.int .u64 n).wf = true) : ∃ m : Nat, n = (m : Int) ∧ m < 18446744073709551616 := by
  simp [Lit.wf, IntKind.min, IntKind.max, IntKind.signed, IntKind.bits] at h
  exact ⟨n.toNat, by omega, by omega⟩
theorem fit_u8 {n : Int} (h : (Lit.int .u8 n).wf = true) : ∃ m : Nat, n = (m : Int) ∧ m < 256 := by
  simp [Lit.wf, IntKind.min, IntKind.max, IntKind.signed, IntKind.bits] at h
  exact ⟨n.toNat, by omega, by omega⟩
section
variable {H : Type} {enc : TypeId × Value → H} {w : World} {base : Nat} {spare : Nat → Bool} {held : Bool}
set_option maxRecDepth 100000 in
theorem open_ops {fuel : Nat} {cs : List Value} {x : DataW H × List MemPlace} (h : DataW.trod enc Try.prog w base spare held fuel 22 cs = some x) (hz : Sz Try.prog 22 x.1) :
    ∃ a n c l, cs = [.slice a n c] ∧ Script w a n c l := by
  obtain ⟨a, n, c, rfl, hl, hm, hx⟩ := open_rows Try.underlying22 cells_op (by omega) (by rw [bytes_op]; decide) h hz
  have : Inhabited OpP := ⟨⟨0, 0, 0, 0, 0⟩⟩
  obtain ⟨l, h1, h2⟩ := row_list (w := w) (α := OpP) (sz := 5) (a := a) (f := opC) (q := OpB) hl hm (fun i hi => by
    obtain ⟨b, off, ha, hb, cs', fl, y, hlen, hc, ht, hy⟩ := hx i hi
    obtain ⟨xs, m, _, rfl, _, hxs, hf⟩ := DataW.trod_struct Try.underlying31 ht
    match cs', hlen, xs, hxs with
    | [c0, c1, c2, c3, c4], _, [y0, y1, y2, y3, y4], _ =>
      have g0 : DataW.trod enc Try.prog w base spare held m 28 (([c0, c1, c2, c3, c4].drop 0).take (Try.prog.cellsOf 28)) = some y0 := hf 0 _ rfl
      have g1 : DataW.trod enc Try.prog w base spare held m 5 (([c0, c1, c2, c3, c4].drop 1).take (Try.prog.cellsOf 5)) = some y1 := hf 1 _ rfl
      have g2 : DataW.trod enc Try.prog w base spare held m 29 (([c0, c1, c2, c3, c4].drop 2).take (Try.prog.cellsOf 29)) = some y2 := hf 2 _ rfl
      have g3 : DataW.trod enc Try.prog w base spare held m 29 (([c0, c1, c2, c3, c4].drop 3).take (Try.prog.cellsOf 29)) = some y3 := hf 3 _ rfl
      have g4 : DataW.trod enc Try.prog w base spare held m 29 (([c0, c1, c2, c3, c4].drop 4).take (Try.prog.cellsOf 29)) = some y4 := hf 4 _ rfl
      rw [cells_kind] at g0
      rw [cells_u8] at g1
      rw [cells_u64] at g2 g3 g4
      obtain ⟨v0, e0, _, w0⟩ := DataW.trod_int Try.underlying28 g0
      obtain ⟨v1, e1, _, w1⟩ := DataW.trod_int Try.underlying5 g1
      obtain ⟨v2, e2, _, w2⟩ := DataW.trod_int Try.underlying29 g2
      obtain ⟨v3, e3, _, w3⟩ := DataW.trod_int Try.underlying29 g3
      obtain ⟨v4, e4, _, w4⟩ := DataW.trod_int Try.underlying29 g4
      simp at e0 e1 e2 e3 e4
      obtain ⟨m0, rfl, q0⟩ := fit_u8 w0
      obtain ⟨m1, rfl, q1⟩ := fit_u8 w1
      obtain ⟨m2, rfl, q2⟩ := fit_u64 w2
      obtain ⟨m3, rfl, q3⟩ := fit_u64 w3
      obtain ⟨m4, rfl, q4⟩ := fit_u64 w4
      subst e0 e1 e2 e3 e4
      exact ⟨⟨m0, m1, m2, m3, m4⟩, ⟨b, off, ha, hb, hc⟩, ⟨q0, q1, q2, q3, q4⟩⟩)
  exact ⟨a, n, c, l, rfl, h1, h2⟩
end
/-- All cells of a step. -/
theorem Script.at {w : World} {a : Option Addr} {n c : Nat} {l : List OpP} (h : Script w a n c l) {k : Nat} (hk : k < n) :
    ∃ o, l[k]? = some o ∧ OpB o ∧ ∃ b off, a = some ⟨b, off, none⟩ ∧ b < w.heap.size ∧ w.cell? ⟨b, off + k * 5, none⟩ = some (.int .u8 (o.kind : Int)) ∧ w.cell? ⟨b, off + k * 5 + 1, none⟩ = some (.int .u8 (o.m : Int)) ∧ w.cell? ⟨b, off + k * 5 + 2, none⟩ = some (.int .u64 (o.a : Int)) ∧ w.cell? ⟨b, off + k * 5 + 3, none⟩ = some (.int .u64 (o.b : Int)) ∧ w.cell? ⟨b, off + k * 5 + 4, none⟩ = some (.int .u64 (o.c : Int)) := by
  obtain ⟨o, ho, b, off, ha, hb, hc⟩ := h.1.cell hk
  exact ⟨o, ho, h.2 o (List.mem_of_getElem? ho), b, off, ha, hb, hc 0 (by decide), hc 1 (by decide), hc 2 (by decide), hc 3 (by decide), hc 4 (by decide)⟩
/-- A world inside a law: the machine behind k steps. -/
structure LW (w0 : World) (wB k : Nat) (ρ : Rl) (L : GL) (T : BL) (G : GS) (B : BS) (wr : World) : Prop where
  wm : WM wr ρ L T G B wB
  inv : InvM k G B
  bel : Below w0.heap.size w0 wr
  low : ∀ g, g < w0.heap.size → ρ g = 0
section
variable {w0 w w' w'' wr : World} {wB k : Nat} {ρ ρ' : Rl} {L L' : GL} {T T' : BL} {G G' : GS} {B B' : BS} {o : OpP}
theorem WM.below (h : WM w ρ L T G B wB) (hb : Below w.heap.size w w') : WM w' ρ L T G B wB := ⟨h.bm.keep (X := fun _ => false) (Fr.below hb) (fun _ _ => rfl), h.wb.below hb, h.w0⟩
theorem WM.other (h : WM w ρ L T G B wB) {g : Nat} (hu : Upd g w w') (h0 : ρ g = 0) (hne : wB ≠ g) : WM w' ρ L T G B wB := ⟨h.bm.upd0 hu h0, h.wb.upd hu hne, h.w0⟩
theorem LW.below (h : LW w0 wB k ρ L T G B wr) (hb : Below wr.heap.size wr w') : LW w0 wB k ρ L T G B w' := ⟨h.wm.below hb, h.inv, h.bel.trans (hb.mono h.bel.size), h.low⟩
/-- A block of no role is written. -/
theorem LW.other (h : LW w0 wB k ρ L T G B wr) {g : Nat} (hu : Upd g wr w') (h0 : ρ g = 0) (hne : wB ≠ g) (hg : w0.heap.size ≤ g) : LW w0 wB k ρ L T G B w' := ⟨h.wm.other hu h0 hne, h.inv, h.bel.trans (hu.below hg h.bel.size), h.low⟩
theorem LW.new0 (h : LW w0 wB k ρ L T G B wr) {g : Nat} (hg : wr.heap.size ≤ g) : ρ g = 0 := Classical.byContradiction fun hc => by
  have := h.wm.bm.gm.dom g hc
  omega
/-- A step is played. -/
structure LwP (w0 : World) (wB k : Nat) (ρ : Rl) (wr : World) (r : (Nat × Nat) × (Nat → List Nat) × GS × BS) (V : Nat → Value) (ρ' : Rl) (L' : GL) (T' : BL) (w' : World) : Prop where
  lw : LW w0 wB k ρ' L' T' r.2.2.1 r.2.2.2 w'
  rw : ∀ i, i < 8 → RowX rtA w' ρ' (41 + i) (V i) (r.2.1 i)
  fr : Fr pX ρ wr ρ' w'
theorem LW.play (h : LW w0 wB k ρ L T G B wr) (hk : k < 65536) (o : OpP) (hob : OpB o) :
    Calls Try.prog 17 #[.pointer (some ⟨wB, 0, none⟩), .agg (opC o).toArray] wr fun e w' => ∃ V ρ' L' T', e = .returned (.agg (rzH (playS G B o).1.1 (playS G B o).1.2 V).toArray) ∧ LwP w0 wB (k + 1) ρ wr (playS G B o) V ρ' L' T' w' := by
  refine (play_walk h.wm.bm h.wm.wb h.wm.w0 o (N := 1000 + k) ⟨h.inv.ok, h.inv.gb (by omega), h.inv.bo, by omega, by omega, hob.k, hob.m, hob.a, hob.b, hob.c⟩).mono ?_
  rintro e w' ⟨V, L', T', ρ', k1, hm⟩
  have hf := hm.fr
  refine ⟨V, ρ', L', T', k1, ⟨⟨hm.bm, ?_, ?_⟩, h.inv.play (by omega) o, h.bel.trans (hf.toBelow h.bel.size h.low rfl), fun g hg => ?_⟩, hm.rw, hf⟩
  · have := hf.keep h.wm.wb h.wm.w0 rfl
    rw [hm.tb, hm.sm.hB, hm.sm.sB, hm.sm.cB]
    exact this
  · rw [hf.old _ h.wm.wb.lt]
    exact h.wm.w0
  · rw [hf.old g (Nat.lt_of_lt_of_le hg h.bel.size)]
    exact h.low g hg
end
end Go.Proofs.Qxb6500888a
