/- The model's step: what it leaves. -/
import Derived.Test.Qxb6500884aClRmU
import Derived.Test.Qxb6500884aClRmP
namespace Go.Proofs.Qxb6500884a
open Go.RowKit
set_option linter.unusedSimpArgs false
set_option linter.unusedVariables false

structure MSt (mb : Nat) (a : Option Addr) (G : List (Nat × (Nat → Bool))) (o : COp) (Ls : List (List (Int × Int))) (w : World) (e : Ending) (w' : World) : Prop where
  out : ∃ (res : List Value) (fs : List (Nat × (Nat → Bool))) (a' : Option Addr), e = .returned (.agg res.toArray) ∧ MMach mb a' (fs.foldl pushG G) w' ∧ MPost o Ls (fs.map (·.2)) res ∧ (blkO a' = blkO a ∨ ∃ g, blkO a' = some g ∧ w.heap.size ≤ g)
  upd : UpdM mb (blkO a) w w'
theorem UpdM.own {mb : Nat} {o : Option Nat} {w w1 w2 : World} {r : Nat} (h : UpdM mb o w w1) (hu : Upd r w1 w2) (hr : w.heap.size ≤ r) : UpdM mb o w w2 :=
  ⟨hu.os.trans h.os, hu.tape.trans h.tape, hu.output.trans h.output, Nat.le_trans h.size hu.size, fun k hk h1 h2 => (hu.block k (Nat.lt_of_lt_of_le hk h.size) (by omega)).trans (h.block k hk h1 h2)⟩
theorem MMach.res {mb : Nat} {a : Option Addr} {G : List (Nat × (Nat → Bool))} {w w' : World} (h : MMach mb a G w) {r : Nat} {cs : List Value} (hr : Blk w r 51 cs) (hu : Upd r w w') : MMach mb a G w' := h.of fun g t ds ht hb => hb.updT hr (by rcases ht with rfl | rfl | rfl <;> decide) hu
theorem MSt.fin1 {mb : Nat} {a : Option Addr} {G : List (Nat × (Nat → Bool))} {o : COp} {Ls : List (List (Int × Int))} {w wk wp w9 : World} {e1 : Ending} {x r : Nat} {f : Nat → Bool} {cs res : List Value} (hb : Below w.heap.size w wk) (hp : MPushP mb a G (x, f) wk e1 wp) (hr : w.heap.size ≤ r) (hrb : Blk wp r 51 cs) (hu : Upd r wp w9) (hpost : MPost o Ls [f] res) : MSt mb a G o Ls w (.returned (.agg res.toArray)) w9 := by
  obtain ⟨a', hm, hab⟩ := hp.out
  refine ⟨⟨res, [(x, f)], a', rfl, hm.res hrb hu, hpost, ?_⟩, ((UpdM.ofBelow (mb := mb) (o := blkO a) hb).trans hp.upd (fun x hx => .inl hx)).own hu hr⟩
  rcases hab with h | ⟨g, h1, h2⟩
  · exact .inl h
  · exact .inr ⟨g, h1, by have := hb.size; omega⟩
theorem MSt.fin0 {mb : Nat} {a : Option Addr} {G : List (Nat × (Nat → Bool))} {o : COp} {Ls : List (List (Int × Int))} {w w9 : World} {res : List Value} (hm : MMach mb a G w) (hb : Below w.heap.size w w9) (hpost : MPost o Ls [] res) : MSt mb a G o Ls w (.returned (.agg res.toArray)) w9 :=
  ⟨⟨res, [], a, rfl, hm.below hb, hpost, .inl rfl⟩, UpdM.ofBelow hb⟩
/-- What stands when the step begins: the op's copy, the result's place. -/
structure S0 (w : World) (q r : Nat) (cs : List Value) (w1 : World) : Prop where
  bel : Below w.heap.size w w1
  op : Blk w1 q 28 cs
  res : Blk w1 r 51 (resC 0 false 0)
  low : w.heap.size ≤ r
theorem S0.below {w : World} {q r : Nat} {cs : List Value} {w1 w2 : World} (h : S0 w q r cs w1) (hb : Below w1.heap.size w1 w2) : S0 w q r cs w2 := ⟨h.bel.trans (hb.mono h.bel.size), h.op.below hb, h.res.below hb, h.low⟩
theorem S0.start (w : World) {q r : Nat} (hq : w.heap.size = q) (hr : q + 1 = r) (cs : List Value) : S0 w q r cs ((w.alloc (.cells cs.toArray 28)).alloc (.cells (resC 0 false 0).toArray 51)) := by
  have h1 := (Blk.new w cs 28).alloc (.cells (resC 0 false 0).toArray 51)
  have h2 := Blk.new (w.alloc (.cells cs.toArray 28)) (resC 0 false 0) 51
  rw [show (w.alloc (.cells cs.toArray 28)).heap.size = r by rw [← hr, ← hq]; simp] at h2
  rw [hq] at h1
  exact ⟨(nbel w _).alloc (by simp) _, h1, h2, by omega⟩
theorem memB_rng {l : List (Int × Int)} (h : Nrm l) {x : Int} (hx : ¬ (0 ≤ x ∧ x ≤ 196607)) : memB l x = false := by
  cases hm : memB l x with
  | false => rfl
  | true =>
    obtain ⟨p, hp, h1, h2⟩ := memB_of hm
    have := h.rng p hp
    omega
theorem Rel.ne {G : List (Nat × (Nat → Bool))} {Ls : List (List (Int × Int))} (h : Rel (G.map (·.2)) Ls) (h0 : 0 < G.length) : Ls ≠ [] := fun e => by
  have := h.len
  rw [e, List.length_map] at this
  simp at this
  rw [this] at h0
  simp at h0
theorem regL_mem {Ls : List (List (Int × Int))} (h : 0 < Ls.length) (i : Int) : regL Ls i ∈ Ls := by
  unfold regL
  rw [List.getD_eq_getElem?_getD, List.getElem?_eq_getElem (regIx_lt h i)]
  exact List.getElem_mem _
end Go.Proofs.Qxb6500884a
