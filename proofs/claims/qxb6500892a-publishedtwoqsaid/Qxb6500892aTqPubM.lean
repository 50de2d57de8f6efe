/- PublishedTwoQ: its memory. -/
import Derived.Test.Qxb6500892aTqMap
namespace Go.Proofs.Qxb6500892a
open Go.RowKit
set_option linter.unusedSimpArgs false
set_option linter.unusedVariables false

structure PQ (w0 : World) (e gn gb pb mb p3 sl kin kout : Nat) (s : ES) (L C : Nat → List Nat) (P : List Nat × List Nat × List Nat) (Mp : List (Nat × Nat)) (w : World) : Prop where
  em : EM e gn gb s w
  ei : EI s L C
  pp : PP w0.heap.size pb sl kin kout P w
  mp : PMu w mb Mp
  cf : Blk w p3 25 [.int .i64 (sl : Int), .int .i64 (kin : Int), .int .i64 (kout : Int), .int .i64 (sl : Int)]
  bel : Below w0.heap.size w0 w
  le : w0.heap.size ≤ e
  lgn : w0.heap.size ≤ gn
  lgb : w0.heap.size ≤ gb
  lmb : w0.heap.size ≤ mb
section
variable {w0 : World} {B e gn gb pb mb p3 sl kin kout : Nat} {s s' : ES} {L C L' C' : Nat → List Nat} {P P' : List Nat × List Nat × List Nat} {Mp Mp' : List (Nat × Nat)} {w w' : World}
theorem PP.below (h : PP B pb sl kin kout P w) (hb : Below w.heap.size w w') : PP B pb sl kin kout P w' := by
  obtain ⟨a1, n1, c1, a2, n2, c2, a3, n3, c3, h⟩ := h
  exact ⟨_, _, _, _, _, _, _, _, _, h.below hb⟩
/-- A world that keeps every block of a key row and the paper's. -/
theorem PP.keep (h : PP B pb sl kin kout P w) (hk : ∀ g t cs, Blk w g t cs → (t = 27 ∨ t = 37) → w'.heap[g]? = w.heap[g]?) : PP B pb sl kin kout P w' := by
  obtain ⟨a1, n1, c1, a2, n2, c2, a3, n3, c3, h⟩ := h
  have ko : ∀ v l, OR w B 27 1 keyC v l → OR w' B 27 1 keyC v l := fun v l ho => ho.keep fun g hg => by
    obtain ⟨_, cs, hb⟩ := ho.blk hg
    exact hk g _ _ hb (.inl rfl)
  exact ⟨_, _, _, _, _, _, _, _, _, ⟨h.bk.same (hk _ _ _ h.bk (.inr rfl)), ko _ _ h.o1, ko _ _ h.o2, ko _ _ h.o3, h.lb, h.b1, h.b2, h.b3⟩⟩
theorem PQ.below (h : PQ w0 e gn gb pb mb p3 sl kin kout s L C P Mp w) (hb : Below w.heap.size w w') : PQ w0 e gn gb pb mb p3 sl kin kout s L C P Mp w' :=
  ⟨h.em.below hb, h.ei, h.pp.below hb, h.mp.below hb, h.cf.below hb, h.bel.trans (hb.mono h.bel.size), h.le, h.lgn, h.lgb, h.lmb⟩
theorem PQ.paper (h : PQ w0 e gn gb pb mb p3 sl kin kout s L C P Mp w) (hp : PP w0.heap.size pb sl kin kout P' w') (hu : Upd pb w w') : PQ w0 e gn gb pb mb p3 sl kin kout s L C P' Mp w' := by
  obtain ⟨a1, n1, c1, a2, n2, c2, a3, n3, c3, hv⟩ := h.pp
  have hb := hv.bk
  exact ⟨⟨h.em.eb.upd hu (h.em.eb.tne hb (by decide)), h.em.nb.upd hu (h.em.nb.tne hb (by decide)), h.em.bb.upd hu (h.em.bb.tne hb (by decide))⟩, h.ei, hp, h.mp.of (hu.block mb h.mp.lt (h.mp.ne hb)), h.cf.upd hu (h.cf.tne hb (by decide)), h.bel.trans (hu.below hv.lb h.bel.size), h.le, h.lgn, h.lgb, h.lmb⟩
theorem PQ.engine (h : PQ w0 e gn gb pb mb p3 sl kin kout s L C P Mp w) (hE : EE e gn gb w s' L' C' w') : PQ w0 e gn gb pb mb p3 sl kin kout s' L' C' P Mp w' := by
  have hu := hE.u3
  have h1 := h.le
  have h2 := h.lgn
  have h3 := h.lgb
  exact ⟨hE.em, hE.ei, h.pp.keep (fun g t cs hb ht => hu.block g hb.lt (hb.tne h.em.eb (by rcases ht with rfl | rfl <;> decide)) (hb.tne h.em.nb (by rcases ht with rfl | rfl <;> decide)) (hb.tne h.em.bb (by rcases ht with rfl | rfl <;> decide))), h.mp.of (hu.block mb h.mp.lt (h.mp.ne h.em.eb) (h.mp.ne h.em.nb) (h.mp.ne h.em.bb)), hu.blk h.cf (h.cf.tne h.em.eb (by decide)) (h.cf.tne h.em.nb (by decide)) (h.cf.tne h.em.bb (by decide)), h.bel.trans ⟨hu.os, hu.tape, hu.output, hu.size, fun k hk => hu.block k (Nat.lt_of_lt_of_le hk h.bel.size) (by omega) (by omega) (by omega)⟩, h.le, h.lgn, h.lgb, h.lmb⟩
theorem PQ.map (h : PQ w0 e gn gb pb mb p3 sl kin kout s L C P Mp w) (hm : PMu w' mb Mp') (hu : Upd mb w w') : PQ w0 e gn gb pb mb p3 sl kin kout s L C P Mp' w' := by
  have kb : ∀ g t cs, Blk w g t cs → Blk w' g t cs := fun g t cs hb => hb.upd hu (Ne.symm (h.mp.ne hb))
  exact ⟨⟨kb _ _ _ h.em.eb, kb _ _ _ h.em.nb, kb _ _ _ h.em.bb⟩, h.ei, h.pp.keep (fun g t cs hb ht => hu.block g hb.lt (Ne.symm (h.mp.ne hb))), hm, kb _ _ _ h.cf, h.bel.trans (hu.below h.lmb h.bel.size), h.le, h.lgn, h.lgb, h.lmb⟩
theorem PQ.ee (h : PQ w0 e gn gb pb mb p3 sl kin kout s L C P Mp w) : EE e gn gb w s L C w := ⟨h.em, U3.refl _ _ _ _, h.ei⟩
end
/-- What a round starts from. -/
def PR (w0 : World) (e gn gb pb mb p3 sl kin kout : Nat) (w : World) : Prop := ∃ s L C Mp, PQ w0 e gn gb pb mb p3 sl kin kout s L C (papOf s L) Mp w ∧ PubI s L Mp ∧ s.slots = sl ∧ s.kin = kin ∧ s.kout = kout
theorem pap_len {s : ES} {L C : Nat → List Nat} (h : EI s L C) : (papOf s L).1.length ≤ 131072 ∧ (papOf s L).2.1.length ≤ s.kout ∧ (papOf s L).2.2.length ≤ 131072 := by
  refine ⟨?_, h.ghLen, ?_⟩
  · show ((L 1).map s.key).length ≤ _
    rw [List.length_map]
    exact Nat.le_trans (nodup_len (h.q.dl 1 (by omega)).nd (h.q.dl 1 (by omega)).lt) h.q.nb
  · show ((L 2).map s.key).length ≤ _
    rw [List.length_map]
    exact Nat.le_trans (nodup_len (h.q.dl 2 (by omega)).nd (h.q.dl 2 (by omega)).lt) h.q.nb
theorem PubI.start {s : ES} {L : Nat → List Nat} {a b c d : Int} (h : NewS a b c d s L) (hk : s.kin < s.slots) : PubI s L [] :=
  ⟨h.pin, fun j hj hw => absurd (h.wh j hj) hw, hk, by simp, fun k i => ⟨fun hm => by simp at hm, fun ⟨h1, h2, _⟩ => absurd (h.wh i h1) h2⟩, fun i hi => ⟨fun hw => absurd (h.wh i hi) hw, fun hl => by simp at hl⟩, by rw [h.l1, h.l2]; rfl⟩
end Go.Proofs.Qxb6500892a
