/- Scripts as bytes: a machine and blocks beside it; Run. -/
import Derived.Test.Qxb6500889aDoorMuE8
import Derived.Test.Qxb6500889aDoorMuR3
namespace Go.Proofs.Qxb6500889aDoor
open Go.RowKit
set_option linter.unusedSimpArgs false
set_option linter.unusedVariables false
/-- What a run of steps answers. -/
inductive RunS : HS → XS → List OpP → List Rz → Prop
  | nil (H : HS) (X : XS) : RunS H X [] []
  | cons {H : HS} {X : XS} {o : OpP} {os : List OpP} {H' : HS} {X' : XS} {z : Rz} {zs : List Rz} : DoS H X o H' X' z → RunS H' (doX X' z) os zs → RunS H X (o :: os) (z :: zs)
theorem RunS.len {H : HS} {X : XS} {os : List OpP} {zs : List Rz} (h : RunS H X os zs) : zs.length = os.length := by
  induction h with
  | nil => rfl
  | cons _ _ ih => simp [ih]
/-- What is still to be answered. -/
theorem RunS.head {H : HS} {X : XS} {o : OpP} {os : List OpP} {zs : List Rz} (h : RunS H X (o :: os) zs) {H' : HS} {X' : XS} {z : Rz} (hd : DoS H X o H' X' z) : ∃ r, zs = z :: r ∧ RunS H' (doX X' z) os r := by
  cases h with
  | cons h1 h2 =>
    obtain ⟨rfl, rfl, rfl⟩ := hd.det h1
    exact ⟨_, rfl, h2⟩
/-- A machine, and blocks beside it. -/
structure MB (w0 : World) (xB : Nat) (H : HS) (X : XS) (k : Nat) (ρ : Rl) (xs : List XBk) (w : World) : Prop where
  mm : ∃ L T, MM w ρ L T H X ∧ T.xB = xB
  hi : HI H X
  xn : XN X k
  low : ∀ g, g < w0.heap.size → ρ g = 0
  bel : Below w0.heap.size w0 w
  bl : ∀ x ∈ xs, Blk w x.1 x.2.1 x.2.2 ∧ w0.heap.size ≤ x.1 ∧ ¬ XR (ρ x.1)
  nd : (xs.map (·.1)).Nodup
theorem XR0 : ¬ XR 0 := by unfold XR HR; omega
section
variable {w0 w w' : World} {xB k : Nat} {H H' : HS} {X X' : XS} {ρ : Rl} {xs : List XBk} {o : OpP} {z : Rz}
theorem MB.new0 (h : MB w0 xB H X k ρ xs w) {g : Nat} (hg : w.heap.size ≤ g) : ρ g = 0 := by
  obtain ⟨L, T, h1, h2⟩ := h.mm
  cases hz : ρ g with
  | zero => rfl
  | succ n => have := h1.hm.dom g (by omega); omega
theorem MB.own (h : MB w0 xB H X k ρ xs w) (hb : Below w.heap.size w w') {g : Nat} {t : TypeId} {cs : List Value} (hk : Blk w' g t cs) (hg : w.heap.size ≤ g) : MB w0 xB H X k ρ ((g, t, cs) :: xs) w' := by
  obtain ⟨L, T, h1, h2⟩ := h.mm
  refine ⟨⟨L, T, h1.keepR hb.size (fun g hg _ => ⟨hb.block g hg, rfl⟩) (fun g hg => Nat.lt_of_lt_of_le (h1.hm.dom g hg) hb.size), h2⟩, h.hi, h.xn, h.low, h.bel.trans (hb.mono h.bel.size), fun x hx => ?_, ?_⟩
  · rcases List.mem_cons.1 hx with rfl | hx
    · exact ⟨hk, Nat.le_trans h.bel.size hg, by dsimp only; rw [h.new0 hg]; exact XR0⟩
    · exact ⟨(h.bl x hx).1.below hb, (h.bl x hx).2⟩
  · rw [List.map_cons, List.nodup_cons]
    refine ⟨fun hm => ?_, h.nd⟩
    obtain ⟨x, hx, he⟩ := List.mem_map.1 hm
    have := (h.bl x hx).1.lt
    omega
theorem MB.below (h : MB w0 xB H X k ρ xs w) (hb : Below w.heap.size w w') : MB w0 xB H X k ρ xs w' := by
  obtain ⟨L, T, h1, h2⟩ := h.mm
  exact ⟨⟨L, T, h1.keepR hb.size (fun g hg _ => ⟨hb.block g hg, rfl⟩) (fun g hg => Nat.lt_of_lt_of_le (h1.hm.dom g hg) hb.size), h2⟩, h.hi, h.xn, h.low, h.bel.trans (hb.mono h.bel.size), fun x hx => ⟨(h.bl x hx).1.below hb, (h.bl x hx).2⟩, h.nd⟩
theorem MB.alloc (h : MB w0 xB H X k ρ xs w) (cs : List Value) (t : TypeId) : MB w0 xB H X k ρ ((w.heap.size, t, cs) :: xs) (w.alloc (.cells cs.toArray t)) := h.own (nbel w _) (Blk.new w cs t) (Nat.le_refl _)
theorem MB.tail {x : XBk} (h : MB w0 xB H X k ρ (x :: xs) w) : MB w0 xB H X k ρ xs w := ⟨h.mm, h.hi, h.xn, h.low, h.bel, fun y hy => h.bl y (List.mem_cons_of_mem _ hy), (List.nodup_cons.1 h.nd).2⟩
theorem MB.set (h : MB w0 xB H X k ρ xs w) {i g : Nat} {t : TypeId} {cs cs' : List Value} (hi : xs[i]? = some (g, t, cs)) (hb : Blk w' g t cs') (hu : Upd g w w') : MB w0 xB H X k ρ (xs.set i (g, t, cs')) w' := by
  obtain ⟨hm1, hm2⟩ := set_spec h.nd (cs' := cs') hi
  have hmem := List.mem_of_getElem? hi
  obtain ⟨b1, b4, b5⟩ := h.bl _ hmem
  obtain ⟨L, T, h1, h2⟩ := h.mm
  refine ⟨⟨L, T, h1.keepR hu.size (fun j hj hr => ⟨hu.block j hj (fun e => b5 (by rw [← e]; exact hr)), rfl⟩) (fun g hg => Nat.lt_of_lt_of_le (h1.hm.dom g hg) hu.size), h2⟩, h.hi, h.xn, h.low, h.bel.trans (hu.below b4 h.bel.size), fun x hx => ?_, by rw [hm2]; exact h.nd⟩
  rcases hm1 x hx with rfl | ⟨hx, hne⟩
  · exact ⟨hb, b4, b5⟩
  · exact ⟨(h.bl x hx).1.upd hu hne, (h.bl x hx).2⟩
/-- A step. -/
theorem MB.do (h : MB w0 xB H X k ρ xs w) (hk : k < 100000000000) (o : OpP) (hob : OpB o) :
    Calls Tryd.prog 21 #[.pointer (some ⟨xB, 0, none⟩), .agg (opC o).toArray] w fun e w' => ∃ z H' X' ρ', e = .returned (.agg (rzC z).toArray) ∧ DoS H X o H' X' z ∧ MB w0 xB H' (doX X' z) (k + 1) ρ' xs w' ∧ Fx ρ w ρ' w' := by
  obtain ⟨L, T, h1, h2⟩ := h.mm
  have := Do_walk h1 h.hi h.xn hk o hob
  rw [h2] at this
  refine this.mono ?_
  rintro e w' ⟨H', X', z, k1, k2, ρ', L', T', m1, m2, m3, m4⟩
  refine ⟨z, H', X', ρ', k1, k2, ⟨⟨L', T', m1, m3.trans h2⟩, k2.inv h.hi, k2.xn h.xn (by omega), fun g hg => ?_, h.bel.trans ⟨m4.os, m4.tape, m4.output, m4.size, fun g hg => m4.blk g (Nat.lt_of_lt_of_le hg h.bel.size) (by rw [h.low g hg]; exact XR0)⟩, fun x hx => ?_, h.nd⟩, m4⟩
  · rw [m4.old g (Nat.lt_of_lt_of_le hg h.bel.size)]; exact h.low g hg
  · obtain ⟨b1, b2, b3⟩ := h.bl x hx
    exact ⟨b1.of (m4.blk _ b1.lt b3), b2, by rw [m4.old _ b1.lt]; exact b3⟩
end
end Go.Proofs.Qxb6500889aDoor
