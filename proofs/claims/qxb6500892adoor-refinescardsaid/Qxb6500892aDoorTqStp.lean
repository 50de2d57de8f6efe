/- One step of the real engine: what it does. -/
import Derived.Test.Qxb6500892aDoorTqNew2
namespace Go.Proofs.Qxb6500892aDoor
open Go.RowKit
set_option linter.unusedSimpArgs false
set_option linter.unusedVariables false

/-- The machine r with its engine. -/
structure RS (w0 : World) (r e gn gb : Nat) (s : ES) (L C : Nat → List Nat) (w : World) : Prop where
  rb : Blk w r 44 [.pointer (some ⟨e, 0, none⟩)]
  em : EM e gn gb s w
  ei : EI s L C
  bel : Below w0.heap.size w0 w
  lr : w0.heap.size ≤ r
  le : w0.heap.size ≤ e
  ln : w0.heap.size ≤ gn
  lb : w0.heap.size ≤ gb
/-- All blocks that stood are as they were, but for the machine's four. -/
structure U4 (r e gn gb : Nat) (w w' : World) : Prop where
  os : w'.os = w.os
  tape : w'.tape = w.tape
  output : w'.output = w.output
  size : w.heap.size ≤ w'.heap.size
  block : ∀ k, k < w.heap.size → k ≠ r → k ≠ e → k ≠ gn → k ≠ gb → w'.heap[k]? = w.heap[k]?
section
variable {w0 : World} {r e gn gb : Nat} {s s' : ES} {L C L' C' : Nat → List Nat} {w w' w'' : World}
theorem U4.refl (r e gn gb : Nat) (w : World) : U4 r e gn gb w w := ⟨rfl, rfl, rfl, Nat.le_refl _, fun _ _ _ _ _ _ => rfl⟩
theorem U4.trans (h : U4 r e gn gb w w') (k : U4 r e gn gb w' w'') : U4 r e gn gb w w'' := ⟨k.os.trans h.os, k.tape.trans h.tape, k.output.trans h.output, Nat.le_trans h.size k.size, fun i hi h1 h2 h3 h4 => (k.block i (Nat.lt_of_lt_of_le hi h.size) h1 h2 h3 h4).trans (h.block i hi h1 h2 h3 h4)⟩
theorem U4.ofBelow (h : Below w.heap.size w w') : U4 r e gn gb w w' := ⟨h.os, h.tape, h.output, h.size, fun k hk _ _ _ _ => h.block k hk⟩
theorem U4.ofU3 (h : U3 e gn gb w w') : U4 r e gn gb w w' := ⟨h.os, h.tape, h.output, h.size, fun k hk _ h1 h2 h3 => h.block k hk h1 h2 h3⟩
theorem U4.ofUpd (h : Upd r w w') : U4 r e gn gb w w' := ⟨h.os, h.tape, h.output, h.size, fun k hk h0 _ _ _ => h.block k hk h0⟩
theorem U4.blk {g : Nat} {t : TypeId} {cs : List Value} (h : U4 r e gn gb w w') (hb : Blk w g t cs) (h0 : g ≠ r) (h1 : g ≠ e) (h2 : g ≠ gn) (h3 : g ≠ gb) : Blk w' g t cs := by
  have := h.block g hb.lt h0 h1 h2 h3
  unfold Blk at hb ⊢
  rw [this]
  exact hb
theorem U3.blk {g : Nat} {t : TypeId} {cs : List Value} (h : U3 e gn gb w w') (hb : Blk w g t cs) (h1 : g ≠ e) (h2 : g ≠ gn) (h3 : g ≠ gb) : Blk w' g t cs := by
  have := h.block g hb.lt h1 h2 h3
  unfold Blk at hb ⊢
  rw [this]
  exact hb
theorem RS.ee (h : RS w0 r e gn gb s L C w) : EE e gn gb w s L C w := ⟨h.em, U3.refl _ _ _ _, h.ei⟩
theorem RS.below (h : RS w0 r e gn gb s L C w) (hb : Below w.heap.size w w') : RS w0 r e gn gb s L C w' := ⟨h.rb.below hb, h.em.below hb, h.ei, h.bel.trans (hb.mono h.bel.size), h.lr, h.le, h.ln, h.lb⟩
theorem RS.re (h : RS w0 r e gn gb s L C w) : r ≠ e ∧ r ≠ gn ∧ r ≠ gb := ⟨h.rb.tne h.em.eb (by decide), h.rb.tne h.em.nb (by decide), h.rb.tne h.em.bb (by decide)⟩
theorem RS.u3 (h : RS w0 r e gn gb s L C w) (hE : EE e gn gb w s' L' C' w') : RS w0 r e gn gb s' L' C' w' := by
  have h1 := h.le
  have h2 := h.ln
  have h3 := h.lb
  have hu := hE.u3
  obtain ⟨a1, a2, a3⟩ := h.re
  exact ⟨hu.blk h.rb a1 a2 a3, hE.em, hE.ei, h.bel.trans ⟨hu.os, hu.tape, hu.output, hu.size, fun k hk => hu.block k (Nat.lt_of_lt_of_le hk h.bel.size) (by omega) (by omega) (by omega)⟩, h.lr, h.le, h.ln, h.lb⟩
end
/-- A step's answer and effect. -/
inductive StpS (x : Int) (k : Nat) (B : Bool) (a b c d : Int) (s : ES) (L : Nat → List Nat) : Nat → Nat → Bool → Int → ES → (Nat → List Nat) → Prop
  | bad (h : cfgB a b c d = false) : StpS x k B a b c d s L 0 4 false 0 s L
  | new (h : cfgB a b c d = true) (s' : ES) (L' : Nat → List Nat) (hn : NewS a b c d s' L') : StpS x k B a b c d s L 0 0 false 0 s' L'
  | ins (v : Nat) (s' : ES) (L' : Nat → List Nat) (h : InsS x k B s L v s' L') : StpS x k B a b c d s L 1 v false 0 s' L'
  | tou (s' : ES) (L' : Nat → List Nat) (h : (liveC s x ≠ 0 ∧ s' = s ∧ L' = L) ∨ (liveC s x = 0 ∧ TouS x.toNat s L s' L')) : StpS x k B a b c d s L 2 (liveC s x) false 0 s' L'
  | rem (s' : ES) (L' : Nat → List Nat) (h : (idleC s x ≠ 0 ∧ s' = s ∧ L' = L) ∨ (idleC s x = 0 ∧ LeaS x.toNat s L s' L')) : StpS x k B a b c d s L 3 (idleC s x) false 0 s' L'
  | pin (s' : ES) (h : (liveC s x ≠ 0 ∧ s' = s) ∨ (liveC s x = 0 ∧ PinS x.toNat 1 s s')) : StpS x k B a b c d s L 4 (liveC s x) false 0 s' L
  | unp (s' : ES) (h : (unpinC s x ≠ 0 ∧ s' = s) ∨ (unpinC s x = 0 ∧ liveC s x = 0 ∧ PinS x.toNat (-1) s s')) : StpS x k B a b c d s L 5 (unpinC s x) false 0 s' L
  | vic : StpS x k B a b c d s L 6 0 (victimS s L).isSome (ovV (victimS s L)) s L
  | evi (s' : ES) (L' : Nat → List Nat) (h : (idleC s x ≠ 0 ∧ s' = s ∧ L' = L) ∨ (idleC s x = 0 ∧ PgS x.toNat s L s' L')) : StpS x k B a b c d s L 7 (idleC s x) false 0 s' L'
  | rcl (o : Option Nat) (s' : ES) (L' : Nat → List Nat) (h : RclS o s L s' L') : StpS x k B a b c d s L 8 0 o.isSome (ovV o) s' L'
  | rep (v : Nat) (s' : ES) (L' : Nat → List Nat) (h : RepS x k B s L v s' L') : StpS x k B a b c d s L 9 v false 0 s' L'
  | sng (s' : ES) (L' : Nat → List Nat) (h : (liveC s x ≠ 0 ∧ s' = s ∧ L' = L) ∨ (liveC s x = 0 ∧ SngS x.toNat B s L s' L')) : StpS x k B a b c d s L 10 (liveC s x) false 0 s' L'
  | fgt (F : Bool) (s' : ES) (L' : Nat → List Nat) (h : FgS k F s L s' L') : StpS x k B a b c d s L 11 0 F 0 s' L'
  | none (kind : Nat) (h : 12 ≤ kind) : StpS x k B a b c d s L kind 0 false 0 s L
def ansV (err : Nat) (som : Bool) (slt : Int) : Value := .agg #[.int .u8 (err : Int), .bool som, .int .i64 slt]
def opV (kind : Nat) (x : Int) (k : Nat) (B : Bool) (a b c d : Int) : Value := .agg #[.int .u8 (kind : Int), .int .i64 x, .int .u64 (k : Int), .bool B, .int .i64 a, .int .i64 b, .int .i64 c, .int .i64 d]
def StepP (w0 : World) (r e gn gb : Nat) (s : ES) (L : Nat → List Nat) (kind : Nat) (x : Int) (k : Nat) (B : Bool) (a b c d : Int) (w : World) (y : Ending) (w' : World) : Prop :=
  ∃ (err : Nat) (som : Bool) (slt : Int), y = .returned (ansV err som slt) ∧ Hid (∃ e' gn' gb' s' L' C', RS w0 r e' gn' gb' s' L' C' w' ∧ U4 r e gn gb w w' ∧ StpS x k B a b c d s L kind err som slt s' L')
theorem info_ans : AggOf Tryd.prog 36 3 := AggOf.struct Tryd.underlying36 (by kernel_rfl)
/-- The machine inside a step: the operation in the block q, the answer in the block p. -/
structure SB (w0 : World) (r e gn gb : Nat) (s : ES) (L C : Nat → List Nat) (q p : Nat) (kind : Nat) (x : Int) (k : Nat) (B : Bool) (a b c d : Int) (ws w : World) : Prop where
  rs : RS w0 r e gn gb s L C w
  u4 : U4 r e gn gb ws w
  l0 : w0.heap.size ≤ ws.heap.size
  lq : ws.heap.size ≤ q
  lp : ws.heap.size ≤ p
  qb : Blk w q 33 [.int .u8 (kind : Int), .int .i64 x, .int .u64 (k : Int), .bool B, .int .i64 a, .int .i64 b, .int .i64 c, .int .i64 d]
  pb : Blk w p 36 [.int .u8 0, .bool false, .int .i64 0]
section
variable {w0 : World} {r e gn gb : Nat} {s s' : ES} {L C L' C' : Nat → List Nat} {q p kind : Nat} {x : Int} {k : Nat} {B : Bool} {a b c d : Int} {ws w w' w'' : World}
theorem SB.start (h : RS w0 r e gn gb s L C ws) (kind : Nat) (x : Int) (k : Nat) (B : Bool) (a b c d : Int) : SB w0 r e gn gb s L C ws.heap.size (ws.heap.size + 1) kind x k B a b c d ws ((ws.alloc (.cells #[.int .u8 (kind : Int), .int .i64 x, .int .u64 (k : Int), .bool B, .int .i64 a, .int .i64 b, .int .i64 c, .int .i64 d] 33)).alloc (.cells #[.int .u8 0, .bool false, .int .i64 0] 36)) := by
  have s1 : ∀ (x : World) (o : Obj), (x.alloc o).heap.size = x.heap.size + 1 := fun x o => by simp
  have hb : Below ws.heap.size ws ((ws.alloc (.cells #[.int .u8 (kind : Int), .int .i64 x, .int .u64 (k : Int), .bool B, .int .i64 a, .int .i64 b, .int .i64 c, .int .i64 d] 33)).alloc (.cells #[.int .u8 0, .bool false, .int .i64 0] 36)) := ((Below.refl _ ws).alloc (Nat.le_refl _) _).alloc (by rw [s1]; omega) _
  refine ⟨h.below hb, U4.ofBelow hb, h.bel.size, Nat.le_refl _, by omega, (Blk.new ws [.int .u8 (kind : Int), .int .i64 x, .int .u64 (k : Int), .bool B, .int .i64 a, .int .i64 b, .int .i64 c, .int .i64 d] 33).alloc _, ?_⟩
  have h1 := Blk.new (ws.alloc (.cells #[.int .u8 (kind : Int), .int .i64 x, .int .u64 (k : Int), .bool B, .int .i64 a, .int .i64 b, .int .i64 c, .int .i64 d] 33)) [.int .u8 0, .bool false, .int .i64 0] 36
  rw [s1] at h1
  exact h1
theorem SB.drew (h : SB w0 r e gn gb s L C q p kind x k B a b c d ws w) (n : Nat) : SB w0 r e gn gb s L C q p kind x k B a b c d ws (w.drewN n) := ⟨h.rs.below (Drew.below ⟨n, rfl⟩ _), h.u4.trans (U4.ofBelow (Drew.below ⟨n, rfl⟩ _)), h.l0, h.lq, h.lp, h.qb, h.pb⟩
theorem SB.ee (h : SB w0 r e gn gb s L C q p kind x k B a b c d ws w) (hE : EE e gn gb w s' L' C' w') : SB w0 r e gn gb s' L' C' q p kind x k B a b c d ws w' :=
  ⟨h.rs.u3 hE, h.u4.trans (U4.ofU3 hE.u3), h.l0, h.lq, h.lp, hE.u3.blk h.qb (h.qb.tne h.rs.em.eb (by decide)) (h.qb.tne h.rs.em.nb (by decide)) (h.qb.tne h.rs.em.bb (by decide)), hE.u3.blk h.pb (h.pb.tne h.rs.em.eb (by decide)) (h.pb.tne h.rs.em.nb (by decide)) (h.pb.tne h.rs.em.bb (by decide))⟩
/-- The answer is written. -/
theorem SB.fin (h : SB w0 r e gn gb s L C q p kind x k B a b c d ws w) {g : Nat} (hg : g = p) (hu : Upd g w w') : RS w0 r e gn gb s L C w' ∧ U4 r e gn gb ws w' := by
  subst hg
  have n1 := h.pb.tne h.rs.rb (by decide)
  have n2 := h.pb.tne h.rs.em.eb (by decide)
  have n3 := h.pb.tne h.rs.em.nb (by decide)
  have n4 := h.pb.tne h.rs.em.bb (by decide)
  have hw0 : Below w0.heap.size w w' := hu.below (Nat.le_trans h.l0 h.lp) h.rs.bel.size
  refine ⟨⟨h.rs.rb.upd hu (Ne.symm n1), ⟨h.rs.em.eb.upd hu (Ne.symm n2), h.rs.em.nb.upd hu (Ne.symm n3), h.rs.em.bb.upd hu (Ne.symm n4)⟩, h.rs.ei, h.rs.bel.trans hw0, h.rs.lr, h.rs.le, h.rs.ln, h.rs.lb⟩, ?_⟩
  exact ⟨hu.os.trans h.u4.os, hu.tape.trans h.u4.tape, hu.output.trans h.u4.output, Nat.le_trans h.u4.size hu.size, fun j hj h1 h2 h3 h4 => (hu.block j (Nat.lt_of_lt_of_le hj h.u4.size) (by have := h.lp; omega)).trans (h.u4.block j hj h1 h2 h3 h4)⟩
theorem SB.answer (h : SB w0 r e gn gb s L C q p kind x k B a b c d ws w) (err : Nat) (som : Bool) (slt : Int) : Blk (((w.setCell ⟨p, 0, none⟩ (.int .u8 (err : Int))).setCell ⟨p, 1, none⟩ (.bool som)).setCell ⟨p, 2, none⟩ (.int .i64 slt)) p 36 [.int .u8 (err : Int), .bool som, .int .i64 slt] ∧ RS w0 r e gn gb s L C (((w.setCell ⟨p, 0, none⟩ (.int .u8 (err : Int))).setCell ⟨p, 1, none⟩ (.bool som)).setCell ⟨p, 2, none⟩ (.int .i64 slt)) ∧ U4 r e gn gb ws (((w.setCell ⟨p, 0, none⟩ (.int .u8 (err : Int))).setCell ⟨p, 1, none⟩ (.bool som)).setCell ⟨p, 2, none⟩ (.int .i64 slt)) :=
  ⟨((h.pb.set 0 _).set 1 _).set 2 _, h.fin rfl ((((Upd.refl p w).setCell rfl _).setCell rfl _).setCell rfl _)⟩
theorem U4.fresh {e' gn' gb' : Nat} (h : U4 r e' gn' gb' ws w) (h1 : ws.heap.size ≤ e') (h2 : ws.heap.size ≤ gn') (h3 : ws.heap.size ≤ gb') : U4 r e gn gb ws w := ⟨h.os, h.tape, h.output, h.size, fun j hj h0 _ _ _ => h.block j hj h0 (by omega) (by omega) (by omega)⟩
theorem SB.bel (h : SB w0 r e gn gb s L C q p kind x k B a b c d ws w) (hb : Below w.heap.size w w') : SB w0 r e gn gb s L C q p kind x k B a b c d ws w' := ⟨h.rs.below hb, h.u4.trans (U4.ofBelow hb), h.l0, h.lq, h.lp, h.qb.below hb, h.pb.below hb⟩
theorem SB.setup {e' gn' gb' : Nat} (h : SB w0 r e gn gb s L C q p kind x k B a b c d ws w) (h0 : U4 r e' gn' gb' ws w) (hE : EE e' gn' gb' w' s' L' C' w') (hb : Below w.heap.size w w') (h1 : w.heap.size ≤ e') (h2 : w.heap.size ≤ gn') (h3 : w.heap.size ≤ gb') : SB w0 r e' gn' gb' s' L' C' q p kind x k B a b c d ws (w'.setCell ⟨r, 0, none⟩ (.pointer (some ⟨e', 0, none⟩))) := by
  have hr := h.rs.rb.below hb
  have hu : Upd r w' (w'.setCell ⟨r, 0, none⟩ (.pointer (some ⟨e', 0, none⟩))) := (Upd.refl r w').setCell rfl _
  have n2 := hr.tne hE.em.eb (by decide)
  have n3 := hr.tne hE.em.nb (by decide)
  have n4 := hr.tne hE.em.bb (by decide)
  have hl := h.rs.bel.size
  refine ⟨⟨hr.set 0 _, ⟨hE.em.eb.upd hu (Ne.symm n2), hE.em.nb.upd hu (Ne.symm n3), hE.em.bb.upd hu (Ne.symm n4)⟩, hE.ei, (h.rs.bel.trans (hb.mono hl)).trans (hu.below h.rs.lr (Nat.le_trans hl hb.size)), h.rs.lr, by omega, by omega, by omega⟩, (h0.trans (U4.ofBelow hb)).trans (U4.ofUpd hu), h.l0, h.lq, h.lp, (h.qb.below hb).upd hu (h.qb.tne h.rs.rb (by decide)), (h.pb.below hb).upd hu (h.pb.tne h.rs.rb (by decide))⟩
end
end Go.Proofs.Qxb6500892aDoor
