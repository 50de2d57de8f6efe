/- The law HandlesAreNeverGivenTwice. -/
import Derived.Test.Qxb6500889aDoorMuOp
namespace Go.Proofs.Qxb6500889aDoor
open Go.RowKit
set_option linter.unusedSimpArgs false
set_option linter.unusedVariables false
/-- A world inside a law: the machine behind k steps. -/
structure LW (w0 : World) (wB k : Nat) (ρ : Rl) (L : HL) (T : XL) (V : WL) (H : HS) (X : XS) (G : List Nat) (wr : World) : Prop where
  wm : WM wr ρ L T V H X G
  hv : V.wB = wB
  hi : HI H X
  xn : XN X k
  gv : GvI X G
  gl : G.length ≤ k
  bel : Below w0.heap.size w0 wr
  low : ∀ g, g < w0.heap.size → ρ g = 0
section
variable {w0 w w' w'' wr : World} {wB k : Nat} {ρ ρ' : Rl} {L : HL} {T : XL} {V : WL} {H H' : HS} {X X' : XS} {G : List Nat} {o : OpP} {z : Rz}
theorem LW.below (h : LW w0 wB k ρ L T V H X G wr) (hb : Below wr.heap.size wr w') : LW w0 wB k ρ L T V H X G w' := ⟨h.wm.below hb, h.hv, h.hi, h.xn, h.gv, h.gl, h.bel.trans (hb.mono h.bel.size), h.low⟩
/-- A block of no role is written. -/
theorem LW.other (h : LW w0 wB k ρ L T V H X G wr) {g : Nat} (hu : Upd g wr w') (h0 : ρ g = 0) (hg : w0.heap.size ≤ g) : LW w0 wB k ρ L T V H X G w' := ⟨h.wm.other hu (.inl h0), h.hv, h.hi, h.xn, h.gv, h.gl, h.bel.trans (hu.below hg h.bel.size), h.low⟩
/-- A step is played. -/
theorem LW.play (h : LW w0 wB k ρ L T V H X G wr) (hk : k < 100000000000) (o : OpP) (hob : OpB o) :
    Calls Tryd.prog 8 #[.pointer (some ⟨wB, 0, none⟩), .agg (opC o).toArray] wr fun e w' => ∃ H' X' z ρ' L' T' V', e = .returned (.agg (rzC z).toArray) ∧ DoS H X o H' X' z ∧ LW w0 wB (k + 1) ρ' L' T' V' H' (doX X' z) (G ++ gvL o z) w' ∧ Fw ρ wr ρ' w' := by
  have hp := play_walk h.wm h.hi h.xn hk h.gl o hob
  rw [h.hv] at hp
  refine hp.mono ?_
  rintro e w' ⟨H', X', z, k1, k2, ρ', L', T', V', k3, k4, k5, k6, k7⟩
  refine ⟨H', X', z, ρ', L', T', V', k1, k2, ⟨k3, k4.trans h.hv, k2.inv h.hi, k2.xn h.xn (by omega), (h.gv.step h.xn (by omega) k2).1, ?_, h.bel.trans (k7.toBelow h.bel.size h.low), fun g hg => ?_⟩, k7⟩
  · rw [List.length_append]
    have := gvL_len o z
    have := h.gl
    omega
  · rw [k7.old g (Nat.lt_of_lt_of_le hg h.bel.size)]
    exact h.low g hg
end
/-- The law's own: the map of those seen. -/
def Sn (w : World) (sB : Nat) (G : List Nat) : Prop := ∃ E, PN w sB E ∧ (∀ e ∈ E, e.v = .bool true) ∧ E.map (·.k) = G
theorem Sn.of {w w' : World} {sB : Nat} {G : List Nat} (h : Sn w sB G) (he : w'.heap[sB]? = w.heap[sB]?) : Sn w' sB G := by
  obtain ⟨E, h1, h2, h3⟩ := h
  exact ⟨E, h1.of he, h2, h3⟩
theorem Sn.lt {w : World} {sB : Nat} {G : List Nat} (h : Sn w sB G) : sB < w.heap.size := by
  obtain ⟨E, h1, h2, h3⟩ := h
  exact h1.lt
theorem zero_bool' (w : World) : (zeroValue 4).run Tryd.prog w = .ok (.bool false) w := by kernel_rfl
theorem Sn.not {w : World} {sB : Nat} {G : List Nat} (h : Sn w sB G) {v : Nat} (hv : v ∉ G) : (Instr.lookup 43 (.map (some sB)) (.int .u64 (v : Int)) false).run Tryd.prog w = .ok (.bool false) w := by
  obtain ⟨E, h1, h2, h3⟩ := h
  exact h1.lookZ (P := Tryd.prog) Tryd.underlying43 Tryd.underlying39 (fun e he hek => hv (by rw [← h3, ← hek]; exact List.mem_map_of_mem he)) zero_bool'
theorem Sn.put {w : World} {sB : Nat} {G : List Nat} (h : Sn w sB G) {v : Nat} (hv : v ∉ G) : ∃ w', (Instr.mapUpdate 43 (.map (some sB)) (.int .u64 (v : Int)) (.bool true)).run Tryd.prog w = .ok () w' ∧ Sn w' sB (G ++ [v]) ∧ Upd sB w w' := by
  obtain ⟨E, h1, h2, h3⟩ := h
  obtain ⟨w2, b, g1, g2, g3⟩ := h1.put (P := Tryd.prog) Tryd.underlying43 Tryd.underlying39 v (.bool true) (fun e he hek => hv (by rw [← h3, ← hek]; exact List.mem_map_of_mem he))
  refine ⟨w2, g1, ⟨_, g2, fun y hy => ?_, by simp [h3]⟩, g3⟩
  rcases List.mem_append.1 hy with hy | hy
  · exact h2 y hy
  · rw [List.mem_singleton.1 hy]
structure G1 (w0 : World) (wB sB k : Nat) (wr : World) : Prop where
  ex : ∃ ρ L T V H X G, LW w0 wB k ρ L T V H X G wr ∧ Sn wr sB G ∧ ρ sB = 0
  sl : w0.heap.size ≤ sB
theorem slice_from (g : Nat) (n i k : Nat) (hi : i < n) (hn : n ≤ k) (hk : k ≤ maxLen) (w : World) : (Instr.sliceAt 40 (.slice (some ⟨g, 0, none⟩) n k) (some (.int .i64 (i : Int))) none none).run Tryd.prog w = .ok (.slice (some ⟨g, i, none⟩) (n - i) (k - i)) w := by
  unfold maxLen at hk
  have e2 : ¬ (k = i) := by omega
  simp [Instr.sliceAt, go_sem, slicedAt]
  rw [if_pos (by omega), if_neg e2]
theorem slice_end (a : Option Addr) (n k : Nat) (hn : n ≤ k) (hk : k ≤ maxLen) (w : World) : ∃ a' k', (Instr.sliceAt 40 (.slice a n k) (some (.int .i64 (n : Int))) none none).run Tryd.prog w = .ok (.slice a' 0 k') w := by
  unfold maxLen at hk
  cases a with
  | none => simp [Instr.sliceAt, go_sem, slicedAt]
  | some ad => simp [Instr.sliceAt, go_sem, slicedAt]
/-- The row of all handles is read at once. -/
theorem all_shape {w : World} {ρ : Rl} {v : Value} {G : List Nat} (h : RowK w ρ 39 .u64 44 v G) : ∃ a k, v = .slice a G.length k ∧ G.length ≤ k ∧ k ≤ maxLen := by
  obtain ⟨a, k, rfl⟩ := h.shape
  have := h.cap
  exact ⟨a, k, rfl, this.2, this.1⟩
end Go.Proofs.Qxb6500889aDoor
