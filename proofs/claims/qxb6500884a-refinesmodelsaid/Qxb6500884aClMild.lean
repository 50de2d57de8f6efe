/- Worlds that keep every register's class and every other block. -/
import Derived.Test.Qxb6500884aClMR
namespace Go.Proofs.Qxb6500884a
open Go.RowKit
set_option linter.unusedSimpArgs false
set_option linter.unusedVariables false

structure Mild (w0 w w' : World) : Prop where
  blk : ∀ (g : Nat) (t : TypeId) (ds : List Value), t ≠ 40 → Blk w g t ds → Blk w' g t ds
  reg : ∀ (r : Nat) (l : List (Int × Int)), RegOk w r l → RegOk w' r l
  low : Below w0.heap.size w0 w → Below w0.heap.size w0 w'
theorem Mild.refl (w0 w : World) : Mild w0 w w := ⟨fun _ _ _ _ h => h, fun _ _ h => h, fun h => h⟩
theorem Mild.trans {w0 a b c : World} (h : Mild w0 a b) (k : Mild w0 b c) : Mild w0 a c := ⟨fun g t ds ht hb => k.blk g t ds ht (h.blk g t ds ht hb), fun r l hr => k.reg r l (h.reg r l hr), fun hb => k.low (h.low hb)⟩
theorem Mild.below {w0 w w' : World} (hb : Below w.heap.size w w') : Mild w0 w w' := ⟨fun _ _ _ _ h => h.below hb, fun _ _ h => h.below hb, fun h => h.trans (hb.mono h.size)⟩
theorem Mild.memb {w0 w w' : World} {r : Nat} {l : List (Int × Int)} (hr : RegOk w r l) (hr' : RegOk w' r l) (hu : Upd r w w') (hw : w0.heap.size ≤ r) : Mild w0 w w' := by
  obtain ⟨_, _, _, _, b1, _⟩ := hr.out
  exact ⟨fun g t ds ht hb => hb.updT b1 ht hu, fun p lp hp => hr.memb hr' hu hp, fun h => h.trans ⟨hu.os, hu.tape, hu.output, hu.size, fun k hk => hu.block k (by have := h.size; omega) (by omega)⟩⟩
theorem Fl.mild {w0 w w' : World} {t : TypeId} {a : Option Addr} {n c : Nat} {cs : List Value} (h : Fl w t a n c cs) (ht : t ≠ 40) (hm : Mild w0 w w') : Fl w' t a n c cs := h.of fun k ds _ hc => hm.blk k t ds ht hc
theorem Mach.mild {w0 w w' : World} {mb : Nat} {a : Option Addr} {S : List (Nat × List (Int × Int))} (h : Mach mb a S w) (hm : Mild w0 w w') : Mach mb a S w' := by
  obtain ⟨c, h1, h2⟩ := h.out
  exact ⟨h.len, ⟨c, hm.blk _ _ _ (by decide) h1, h2.mild (by decide) hm⟩, fun p hp => hm.reg _ _ (h.regs p hp)⟩
theorem MW.mild {w0 w w' : World} {mb : Nat} {a : Option Addr} {S : List (Nat × List (Int × Int))} (h : MW w0 mb a S w) (hm : Mild w0 w w') : MW w0 mb a S w' := ⟨hm.low h.bel, h.mach.mild hm, h.mbw, h.ab, h.rw⟩
/-- What the operands' tables are, ahead of a step. -/
structure ABk (mb : Nat) (a : Option Addr) (S : List (Nat × List (Int × Int))) (o : COp) (v6 v7 v8 : Value) (w : World) : Prop where
  two : 5 ≤ o.kind → o.kind ≤ 8 → ∃ g1 g2, v6 = .slice (some ⟨g1, 0, none⟩) 196608 196608 ∧ v7 = .slice (some ⟨g2, 0, none⟩) 196608 196608 ∧ Blk w g1 4 (tabL fun i => memB (regL (S.map (·.2)) o.a) (i : Int)) ∧ Blk w g2 4 (tabL fun i => memB (regL (S.map (·.2)) o.b) (i : Int))
  one : o.kind = 9 → ∃ g1, v6 = .slice (some ⟨g1, 0, none⟩) 196608 196608 ∧ Blk w g1 4 (tabL fun i => memB (regL (S.map (·.2)) o.a) (i : Int))
  fam : o.kind = 10 → ∃ gf, v8 = .slice (some ⟨gf, 0, none⟩) o.rn o.rn ∧ Blk w gf 38 ((famL S o.rg).map ptV) ∧ gf ≠ mb ∧ blkO a ≠ some gf
theorem ABk.step {mb : Nat} {a : Option Addr} {S : List (Nat × List (Int × Int))} {o : COp} {v6 v7 v8 : Value} {w w' : World} (h : ABk mb a S o v6 v7 v8 w) (hm : Mach mb a S w) (hu : UpdM mb (blkO a) w w') : ABk mb a S o v6 v7 v8 w' := by
  refine ⟨fun h1 h2 => ?_, fun h1 => ?_, fun h1 => ?_⟩
  · obtain ⟨g1, g2, e1, e2, b1, b2⟩ := h.two h1 h2
    exact ⟨g1, g2, e1, e2, hm.blkT hu b1 (by decide) (by decide), hm.blkT hu b2 (by decide) (by decide)⟩
  · obtain ⟨g1, e1, b1⟩ := h.one h1
    exact ⟨g1, e1, hm.blkT hu b1 (by decide) (by decide)⟩
  · obtain ⟨gf, e1, b1, n1, n2⟩ := h.fam h1
    refine ⟨gf, e1, ?_, n1, n2⟩
    unfold Blk
    rw [hu.block gf b1.lt n1 n2]
    exact b1
theorem ABk.below {mb : Nat} {a : Option Addr} {S : List (Nat × List (Int × Int))} {o : COp} {v6 v7 v8 : Value} {w w' : World} (h : ABk mb a S o v6 v7 v8 w) (hb : Below w.heap.size w w') : ABk mb a S o v6 v7 v8 w' := by
  refine ⟨fun h1 h2 => ?_, fun h1 => ?_, fun h1 => ?_⟩
  · obtain ⟨g1, g2, e1, e2, b1, b2⟩ := h.two h1 h2
    exact ⟨g1, g2, e1, e2, b1.below hb, b2.below hb⟩
  · obtain ⟨g1, e1, b1⟩ := h.one h1
    exact ⟨g1, e1, b1.below hb⟩
  · obtain ⟨gf, e1, b1, n1, n2⟩ := h.fam h1
    exact ⟨gf, e1, b1.below hb, n1, n2⟩
theorem ABk.mild {mb : Nat} {a : Option Addr} {S : List (Nat × List (Int × Int))} {o : COp} {v6 v7 v8 : Value} {w0 w w' : World} (h : ABk mb a S o v6 v7 v8 w) (hb : Mild w0 w w') : ABk mb a S o v6 v7 v8 w' := by
  refine ⟨fun h1 h2 => ?_, fun h1 => ?_, fun h1 => ?_⟩
  · obtain ⟨g1, g2, e1, e2, b1, b2⟩ := h.two h1 h2
    exact ⟨g1, g2, e1, e2, hb.blk _ _ _ (by decide) b1, hb.blk _ _ _ (by decide) b2⟩
  · obtain ⟨g1, e1, b1⟩ := h.one h1
    exact ⟨g1, e1, hb.blk _ _ _ (by decide) b1⟩
  · obtain ⟨gf, e1, b1, n1, n2⟩ := h.fam h1
    exact ⟨gf, e1, hb.blk _ _ _ (by decide) b1, n1, n2⟩
/-- One class pushed: its members. -/
theorem StepS.isOne {o : COp} {Ls new : List (List (Int × Int))} {r : List Value} {l : List (Int × Int)} (h : StepS o Ls new r) (hn : new = [l]) : (∃ f, kindF o Ls = some f ∧ (needB o.kind = true → Ls ≠ []) ∧ Nrm l ∧ ∀ x, 0 ≤ x → x ≤ 196607 → memB l x = f x) ∨ o.kind = 12 := by
  cases h with
  | none hn' he hw => rw [hw] at hn; cases hn
  | one f hf hne l' hw hN hm =>
    rw [hw] at hn
    cases hn
    exact .inl ⟨f, hf, hne, hN, hm⟩
  | many hk => exact .inr hk
  | ask hne r hq hw => rw [hw] at hn; cases hn
  | idx hk hne P pt hp v ok hi hw => rw [hw] at hn; cases hn
  | other hk hne hw => rw [hw] at hn; cases hn
end Go.Proofs.Qxb6500884a
