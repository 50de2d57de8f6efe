/- One step of the real engine: what it does. -/
import Derived.Test.Qxb6500892aTqNew2
namespace Go.Proofs.Qxb6500892a
open Go.RowKit
set_option linter.unusedSimpArgs false
set_option linter.unusedVariables false

/-- All blocks that stood are as they were, but for the machine's four. -/
structure U4 (r e gn gb : Nat) (w w' : World) : Prop where
  os : w'.os = w.os
  tape : w'.tape = w.tape
  output : w'.output = w.output
  size : w.heap.size ≤ w'.heap.size
  block : ∀ k, k < w.heap.size → k ≠ r → k ≠ e → k ≠ gn → k ≠ gb → w'.heap[k]? = w.heap[k]?
section
variable {w0 : World} {r e gn gb : Nat} {s s' : ES} {L C L' C' : Nat → List Nat} {w w' w'' : World}
theorem U4.refl (r e gn gb : Nat) (w : World) : U4 r e gn gb w w := ⟨rfl, rfl, rfl, Nat.le_refl _, fun _ _ _ _ _ _ => rfl⟩
theorem U4.trans (h : U4 r e gn gb w w') (k : U4 r e gn gb w' w'') : U4 r e gn gb w w'' := ⟨k.os.trans h.os, k.tape.trans h.tape, k.output.trans h.output, Nat.le_trans h.size k.size, fun i hi h1 h2 h3 h4 => (k.block i (Nat.lt_of_lt_of_le hi h.size) h1 h2 h3 h4).trans (h.block i hi h1 h2 h3 h4)⟩
theorem U4.ofBelow (h : Below w.heap.size w w') : U4 r e gn gb w w' := ⟨h.os, h.tape, h.output, h.size, fun k hk _ _ _ _ => h.block k hk⟩
theorem U4.ofU3 (h : U3 e gn gb w w') : U4 r e gn gb w w' := ⟨h.os, h.tape, h.output, h.size, fun k hk _ h1 h2 h3 => h.block k hk h1 h2 h3⟩
theorem U4.ofUpd (h : Upd r w w') : U4 r e gn gb w w' := ⟨h.os, h.tape, h.output, h.size, fun k hk h0 _ _ _ => h.block k hk h0⟩
theorem U4.blk {g : Nat} {t : TypeId} {cs : List Value} (h : U4 r e gn gb w w') (hb : Blk w g t cs) (h0 : g ≠ r) (h1 : g ≠ e) (h2 : g ≠ gn) (h3 : g ≠ gb) : Blk w' g t cs := by
  have := h.block g hb.lt h0 h1 h2 h3
  unfold Blk at hb ⊢
  rw [this]
  exact hb
theorem U3.blk {g : Nat} {t : TypeId} {cs : List Value} (h : U3 e gn gb w w') (hb : Blk w g t cs) (h1 : g ≠ e) (h2 : g ≠ gn) (h3 : g ≠ gb) : Blk w' g t cs := by
  have := h.block g hb.lt h1 h2 h3
  unfold Blk at hb ⊢
  rw [this]
  exact hb
end
/-- A step's answer and effect. -/
inductive StpS (x : Int) (k : Nat) (B : Bool) (a b c d : Int) (s : ES) (L : Nat → List Nat) : Nat → Nat → Bool → Int → ES → (Nat → List Nat) → Prop
  | bad (h : cfgB a b c d = false) : StpS x k B a b c d s L 0 4 false 0 s L
  | new (h : cfgB a b c d = true) (s' : ES) (L' : Nat → List Nat) (hn : NewS a b c d s' L') : StpS x k B a b c d s L 0 0 false 0 s' L'
  | ins (v : Nat) (s' : ES) (L' : Nat → List Nat) (h : InsS x k B s L v s' L') : StpS x k B a b c d s L 1 v false 0 s' L'
  | tou (s' : ES) (L' : Nat → List Nat) (h : (liveC s x ≠ 0 ∧ s' = s ∧ L' = L) ∨ (liveC s x = 0 ∧ TouS x.toNat s L s' L')) : StpS x k B a b c d s L 2 (liveC s x) false 0 s' L'
  | rem (s' : ES) (L' : Nat → List Nat) (h : (idleC s x ≠ 0 ∧ s' = s ∧ L' = L) ∨ (idleC s x = 0 ∧ LeaS x.toNat s L s' L')) : StpS x k B a b c d s L 3 (idleC s x) false 0 s' L'
  | pin (s' : ES) (h : (liveC s x ≠ 0 ∧ s' = s) ∨ (liveC s x = 0 ∧ PinS x.toNat 1 s s')) : StpS x k B a b c d s L 4 (liveC s x) false 0 s' L
  | unp (s' : ES) (h : (unpinC s x ≠ 0 ∧ s' = s) ∨ (unpinC s x = 0 ∧ liveC s x = 0 ∧ PinS x.toNat (-1) s s')) : StpS x k B a b c d s L 5 (unpinC s x) false 0 s' L
  | vic : StpS x k B a b c d s L 6 0 (victimS s L).isSome (ovV (victimS s L)) s L
  | evi (s' : ES) (L' : Nat → List Nat) (h : (idleC s x ≠ 0 ∧ s' = s ∧ L' = L) ∨ (idleC s x = 0 ∧ PgS x.toNat s L s' L')) : StpS x k B a b c d s L 7 (idleC s x) false 0 s' L'
  | rcl (o : Option Nat) (s' : ES) (L' : Nat → List Nat) (h : RclS o s L s' L') : StpS x k B a b c d s L 8 0 o.isSome (ovV o) s' L'
  | rep (v : Nat) (s' : ES) (L' : Nat → List Nat) (h : RepS x k B s L v s' L') : StpS x k B a b c d s L 9 v false 0 s' L'
  | sng (s' : ES) (L' : Nat → List Nat) (h : (liveC s x ≠ 0 ∧ s' = s ∧ L' = L) ∨ (liveC s x = 0 ∧ SngS x.toNat B s L s' L')) : StpS x k B a b c d s L 10 (liveC s x) false 0 s' L'
  | fgt (F : Bool) (s' : ES) (L' : Nat → List Nat) (h : FgS k F s L s' L') : StpS x k B a b c d s L 11 0 F 0 s' L'
  | none (kind : Nat) (h : 12 ≤ kind) : StpS x k B a b c d s L kind 0 false 0 s L
def ansV (err : Nat) (som : Bool) (slt : Int) : Value := .agg #[.int .u8 (err : Int), .bool som, .int .i64 slt]
def opV (kind : Nat) (x : Int) (k : Nat) (B : Bool) (a b c d : Int) : Value := .agg #[.int .u8 (kind : Int), .int .i64 x, .int .u64 (k : Int), .bool B, .int .i64 a, .int .i64 b, .int .i64 c, .int .i64 d]
section
variable {w0 : World} {r e gn gb : Nat} {s s' : ES} {L C L' C' : Nat → List Nat} {q p kind : Nat} {x : Int} {k : Nat} {B : Bool} {a b c d : Int} {ws w w' w'' : World}
theorem U4.fresh {e' gn' gb' : Nat} (h : U4 r e' gn' gb' ws w) (h1 : ws.heap.size ≤ e') (h2 : ws.heap.size ≤ gn') (h3 : ws.heap.size ≤ gb') : U4 r e gn gb ws w := ⟨h.os, h.tape, h.output, h.size, fun j hj h0 _ _ _ => h.block j hj h0 (by omega) (by omega) (by omega)⟩
end
end Go.Proofs.Qxb6500892a
