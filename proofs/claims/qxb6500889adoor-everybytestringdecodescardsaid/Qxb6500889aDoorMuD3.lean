/- do: one theorem for each kind (written by tools/mk_do.py). -/
import Derived.Test.Qxb6500889aDoorMuD2
import Derived.Test.Qxb6500889aDoorMuP2
import Derived.Laws.Tables
namespace Go.Proofs.Qxb6500889aDoor
open Go.RowKit
set_option linter.unusedSimpArgs false
set_option linter.unusedVariables false
def opC (o : OpP) : List Value := [.int .u8 (o.ac : Int), .int .u8 (o.k : Int), .int .u64 (o.a : Int), .int .u64 (o.b : Int), .int .u64 (o.c : Int)]
section
variable {w w' w'' : World} {ρ ρ' ρ'' : Rl} {L L' : HL} {T : XL} {H H' : HS} {X X' : XS} {q : Nat} {o : OpP} {z : Rz} {wz : World}
/-- A block of none of the machine's roles is written. -/
theorem MM.other (h : MM w ρ L T H X) {g : Nat} (hu : Upd g w w') (hg : ρ g = 0 ∨ (6 ≤ ρ g ∧ ρ g < 16) ∨ (20 ≤ ρ g ∧ ρ g < 32) ∨ (36 ≤ ρ g ∧ ρ g < 64)) : MM w' ρ L T H X := by
  have e : ∀ k, k < w.heap.size → ρ k ≠ ρ g → w'.heap[k]? = w.heap[k]? := fun k hk hne => hu.block k hk (fun e => hne (by rw [e]))
  exact ⟨h.hm.other hu (by omega), h.xb.of (e _ h.xb.lt (by rw [h.rx]; omega)), h.rx, fun m hm => (h.tr m hm).of (fun g' hg' hr => ⟨e g' hg' (by omega), rfl⟩)⟩
theorem Fx.fresh (h : Fx ρ w ρ' wz) {g : Nat} (hu : Upd g wz w'') (hg : w.heap.size ≤ g) : Fx ρ w ρ' w'' := ⟨hu.os.trans h.os, hu.tape.trans h.tape, hu.output.trans h.output, Nat.le_trans h.size hu.size, h.old, fun k hk h0 => (hu.block k (Nat.lt_of_lt_of_le hk h.size) (by omega)).trans (h.blk k hk h0)⟩
/-- While a step is played: the machine, the step's block, the answer's block. -/
structure DB (w : World) (ρ : Rl) (L : HL) (T : XL) (q : Nat) (o : OpP) (H : HS) (X : XS) (z : Rz) (wz : World) : Prop where
  ex : ∃ ρ' L' T', MM wz ρ' L' T' H X ∧ L'.hB = L.hB ∧ T'.xB = T.xB ∧ Fx ρ w ρ' wz ∧ ρ' q = 0 ∧ ρ' (q + 1) = 0
  bq : Blk wz q 31 (opC o)
  bp : Blk wz (q + 1) 36 (rzC z)
  hq : w.heap.size ≤ q
theorem DB.start (h : MM w ρ L T H X) (o : OpP) : DB w ρ L T w.heap.size o H X (rzR 0) ((w.alloc (.cells (opC o).toArray 31)).alloc (.cells (rzC (rzR 0)).toArray 36)) := by
  have hb := nbel w (.cells (opC o).toArray 31)
  have hb2 : Below w.heap.size w ((w.alloc (.cells (opC o).toArray 31)).alloc (.cells (rzC (rzR 0)).toArray 36)) := hb.alloc (Nat.le_of_lt (by simp)) _
  have h0 : ∀ g, w.heap.size ≤ g → ρ g = 0 := fun g hg => by
    cases hz : ρ g with
    | zero => rfl
    | succ k => have := h.hm.dom g (by omega); omega
  refine ⟨⟨ρ, L, T, h.below hb2, rfl, rfl, Fx.below hb2, h0 _ (Nat.le_refl _), h0 _ (by omega)⟩, (Blk.new w (opC o) _).alloc _, ?_, Nat.le_refl _⟩
  have := Blk.new (w.alloc (.cells (opC o).toArray 31)) (rzC (rzR 0)) 36
  simpa using this
theorem DB.below (h : DB w ρ L T q o H X z wz) (hb : Below wz.heap.size wz w'') : DB w ρ L T q o H X z w'' := by
  obtain ⟨⟨ρ', L', T', h1, h2, h3, h4, h5, h6⟩, h7, h8, h9⟩ := h
  exact ⟨⟨ρ', L', T', h1.below hb, h2, h3, h4.trans (Fx.below hb), h5, h6⟩, h7.below hb, h8.below hb, h9⟩
/-- A call that works on the machine. -/
theorem DB.run (h : DB w ρ L T q o H X z wz) {f : FuncId} {args : Nat → Array Value} {R : Ending → HS → XS → Prop} (hc : ∀ ρ' L' T', MM wz ρ' L' T' H X → Calls Tryd.prog f (args T'.xB) wz fun e w' => ∃ H' X', R e H' X' ∧ Out wz ρ' L' T' H' X' w') :
    Calls Tryd.prog f (args T.xB) wz fun e w' => ∃ H' X', R e H' X' ∧ DB w ρ L T q o H' X' z w' := by
  obtain ⟨⟨ρ', L', T', h1, h2, h3, h4, h5, h6⟩, h7, h8, h9⟩ := h
  have := hc ρ' L' T' h1
  rw [h3] at this
  refine this.mono ?_
  rintro e w' ⟨H', X', hr, ρ2, L2, T2, k1, k2, k3, k4⟩
  have e1 := k4.old q h7.lt
  have e2 := k4.old (q + 1) h8.lt
  exact ⟨H', X', hr, ⟨⟨ρ2, L2, T2, k1, k2.trans h2, k3.trans h3, h4.trans k4, by rw [e1]; exact h5, by rw [e2]; exact h6⟩, h7.of (k4.blk q h7.lt (by rw [h5]; omega)), h8.of (k4.blk (q + 1) h8.lt (by rw [h6]; omega)), h9⟩⟩
/-- A call that only makes new memory. -/
theorem DB.pure (h : DB w ρ L T q o H X z wz) {f : FuncId} {args : Nat → Array Value} {e0 : Ending} (hc : ∀ ρ' L' T', MM wz ρ' L' T' H X → Calls Tryd.prog f (args T'.xB) wz fun e w' => e = e0 ∧ Below wz.heap.size wz w') :
    Calls Tryd.prog f (args T.xB) wz fun e w' => e = e0 ∧ DB w ρ L T q o H X z w' := by
  obtain ⟨ρ', L', T', h1, h2, h3, h4, h5, h6⟩ := h.ex
  have := hc ρ' L' T' h1
  rw [h3] at this
  exact this.mono (fun e w' ⟨k1, k2⟩ => ⟨k1, h.below k2⟩)
theorem DB.store (h : DB w ρ L T q o H X z wz) {z' : Rz} (hb : Blk w'' (q + 1) 36 (rzC z')) (hu : Upd (q + 1) wz w'') : DB w ρ L T q o H X z' w'' := by
  obtain ⟨⟨ρ', L', T', h1, h2, h3, h4, h5, h6⟩, h7, h8, h9⟩ := h
  exact ⟨⟨ρ', L', T', h1.other hu (.inl h6), h2, h3, h4.fresh hu (by omega), h5, h6⟩, h7.upd hu (by omega), hb, h9⟩
theorem DB.out (h : DB w ρ L T q o H X z wz) : Out w ρ L T H X wz := by
  obtain ⟨ρ', L', T', h1, h2, h3, h4, _, _⟩ := h.ex
  exact ⟨ρ', L', T', h1, h2, h3, h4⟩
def DoP (w : World) (ρ : Rl) (L : HL) (T : XL) (H : HS) (X : XS) (o : OpP) (e : Ending) (w' : World) : Prop := ∃ H' X' z, e = .returned (.agg (rzC z).toArray) ∧ DoS H X o H' X' z ∧ Out w ρ L T H' X' w'
theorem built_st (z : Rz) (hc : z.c = 0) (hv : z.v = 0) : Tryd.prog.built 36 [(2, .agg (stC z).toArray)] = some (rzC z).toArray := by
  unfold rzC stC
  rw [hc, hv]
  kernel_rfl
theorem wpList_build_st {ops : Array Oper} {rest : List Oper} {op : Oper} {a : Act} {Q : Exit → Act → World → Prop} (hg : op.guard = none) (x : Operand) (ho : op.op = .build 36 #[(2, x)]) (z : Rz) (hc : z.c = 0) (hv : z.v = 0) (hx : a.eval x = .agg (stC z).toArray)
    (h : wpList Tryd.prog ops Q rest (a.put op.dst (.agg (rzC z).toArray)) w) : wpList Tryd.prog ops Q (op :: rest) a w := by
  have e : (#[(2, x)].map fun (i, x) => (i, a.eval x)).toList = [(2, .agg (stC z).toArray)] := by simp [hx]
  have hb := built_st z hc hv
  refine wpList_build hg 36 #[(2, x)] ho ?_ ?_
  · rw [e, hb]; rfl
  · rw [e, hb]; exact h
theorem rz_one (z : Rz) : ∀ v ∈ rzC z, v.oneCell' = true := by
  intro v hv
  simp [rzC] at hv
  rcases hv with rfl | rfl | rfl | rfl | rfl | rfl | rfl | rfl <;> rfl
end
end Go.Proofs.Qxb6500889aDoor
