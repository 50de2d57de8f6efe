/- The machine inside a law. -/
import Derived.Test.Qxb6500884aClStW
namespace Go.Proofs.Qxb6500884a
open Go.RowKit
set_option linter.unusedSimpArgs false
set_option linter.unusedVariables false

structure MW (w0 : World) (mb : Nat) (a : Option Addr) (S : List (Nat × List (Int × Int))) (w : World) : Prop where
  bel : Below w0.heap.size w0 w
  mach : Mach mb a S w
  mbw : w0.heap.size ≤ mb
  ab : ∀ k, blkO a = some k → w0.heap.size ≤ k
  rw : ∀ p ∈ S, w0.heap.size ≤ p.1
theorem MW.below {w0 w w' : World} {mb : Nat} {a : Option Addr} {S : List (Nat × List (Int × Int))} (h : MW w0 mb a S w) (hb : Below w.heap.size w w') : MW w0 mb a S w' := ⟨h.bel.trans (hb.mono h.bel.size), h.mach.below hb, h.mbw, h.ab, h.rw⟩
theorem MW.start (w : World) {mb : Nat} (hm : w.heap.size = mb) : MW w mb none [] (w.alloc (.cells #[.slice none 0 0] 46)) := by
  have hb := Blk.new w [.slice none 0 0] 46
  rw [hm] at hb
  exact ⟨nbel w _, ⟨by simp, ⟨0, hb, Fl.nil _ _⟩, fun p hp => by simp at hp⟩, by omega, (fun k hk => by cases hk), (fun p hp => by simp at hp)⟩
theorem push12_sub {S : List (Nat × List (Int × Int))} {x p : Nat × List (Int × Int)} (h : p ∈ push12 S x) : p ∈ S ∨ p = x := by
  unfold push12 at h
  split at h
  · have := List.mem_of_mem_drop h
    simpa using this
  · simpa using h
theorem fold_sub : ∀ (ps S : List (Nat × List (Int × Int))) {p : Nat × List (Int × Int)}, p ∈ ps.foldl push12 S → p ∈ S ∨ p ∈ ps
  | [], S, p, h => .inl h
  | x :: ps, S, p, h => by
    rw [List.foldl_cons] at h
    rcases fold_sub ps _ h with h1 | h1
    · rcases push12_sub h1 with h2 | h2
      · exact .inl h2
      · exact .inr (by simp [h2])
    · exact .inr (by simp [h1])
/-- A step. -/
structure MWs (w0 : World) (mb : Nat) (a : Option Addr) (S : List (Nat × List (Int × Int))) (o : COp) (w : World) (res : List Value) (pa : Option Addr) (pn pc : Nat) (ps : List (Nat × List (Int × Int))) (a' : Option Addr) (w' : World) : Prop where
  fl : Fl w' 38 pa pn pc (ps.map ptV)
  reg : ∀ p ∈ ps, RegOk w' p.1 p.2
  mw : MW w0 mb a' (ps.foldl push12 S) w'
  st : StepS o (S.map (·.2)) (ps.map (·.2)) res
  fr : ∀ p ∈ ps, w.heap.size ≤ p.1
  pw : ps.Pairwise (fun p q => p.1 < q.1)
  pb : ∀ g, blkO pa = some g → w.heap.size ≤ g
  len : ps.length ≤ 196608
  upd : UpdM mb (blkO a) w w'
theorem MW.step {w0 w w' : World} {mb : Nat} {a : Option Addr} {S : List (Nat × List (Int × Int))} {o : COp} {e : Ending} (h : MW w0 mb a S w) (hp : StepP mb a S o w e w') : ∃ res pa pn pc ps a', e = .returned (.tuple #[.agg (res : List Value).toArray, .slice pa pn pc]) ∧ MWs w0 mb a S o w res pa pn pc ps a' w' := by
  obtain ⟨res, pa, pn, pc, ps, a', h1, h2, h3, h4, h5, h6, h7, h8, h9, h10⟩ := hp.out
  refine ⟨res, pa, pn, pc, ps, a', h1, h2, h3, ⟨h.bel.trans ?_, h4, h.mbw, fun k hk => ?_, fun p hp2 => ?_⟩, h5, h6, h7, h9, h10, hp.upd⟩
  · exact ⟨hp.upd.os, hp.upd.tape, hp.upd.output, hp.upd.size, fun k hk => hp.upd.block k (by have := h.bel.size; omega) (fun e => by have := h.mbw; omega) (fun e => by have := h.ab k e; omega)⟩
  · rcases h8 with h11 | ⟨g, h11, h12⟩
    · rw [h11] at hk
      exact h.ab k hk
    · rw [h11] at hk
      cases hk
      exact Nat.le_trans h.bel.size h12
  · rcases fold_sub ps S hp2 with h11 | h11
    · exact h.rw p h11
    · exact Nat.le_trans h.bel.size (h6 p h11)
end Go.Proofs.Qxb6500884a
