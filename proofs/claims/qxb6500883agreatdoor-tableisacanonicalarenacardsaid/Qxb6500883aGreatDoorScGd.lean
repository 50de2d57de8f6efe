/- The table with its two maps of shapes. -/
import Derived.Test.Qxb6500883aGreatDoorScGc
namespace Go.Proofs.Qxb6500883aGreatDoor
open Go.RowKit
set_option linter.unusedSimpArgs false
set_option linter.unusedVariables false
/-- The interning maps, plainly. -/
structure TMp where
  ms : Nat
  mu : Nat
  sh : SK → Option Nat
  un : ByteArray → Option Nat
def idV (o : Option Nat) : Option Value := o.map fun x => .int .i32 (x : Int)
/-- The table and its maps in memory (roles 55 shapes, 56 unions). -/
structure TbX (τ : Rl) (w : World) (tB : Nat) (V : TV) (T : TS) (M : TMp) : Prop where
  tb : TbM τ w tB V T
  dom : ∀ g, τ g ≠ 0 → g < w.heap.size
  vs : V.sh = .map (some M.ms)
  vu : V.un = .map (some M.mu)
  rs : τ M.ms = 55
  ru : τ M.mu = 56
  s : MG skV w M.ms (fun k => idV (M.sh k))
  u : MG (fun s : ByteArray => .string s) w M.mu (fun k => idV (M.un k))
section
variable {τ τ' : Rl} {w w' w1 w2 : World} {tB : Nat} {V V' : TV} {T T' : TS} {M : TMp}
theorem TbX.fr' {X : Nat → Bool} (h : TbX τ w tB V T M) (hf : Fr X τ w τ' w') (h5 : X 55 = false) (h6 : X 56 = false) (ht : TbM τ' w' tB V' T') (e1 : V'.sh = V.sh) (e2 : V'.un = V.un) : TbX τ' w' tB V' T' M :=
  ⟨ht, hf.dom h.dom, by rw [e1]; exact h.vs, by rw [e2]; exact h.vu, by rw [hf.old _ h.s.lt]; exact h.rs, by rw [hf.old _ h.u.lt]; exact h.ru, h.s.of (hf.blk _ h.s.lt (by rw [h.rs]; exact h5)), h.u.of (hf.blk _ h.u.lt (by rw [h.ru]; exact h6))⟩
theorem TbX.below (h : TbX τ w tB V T M) (hb : Below w.heap.size w w') : TbX τ w' tB V T M := h.fr' (X := fun _ => false) (Fr.below hb) rfl rfl (h.tb.below hb) rfl rfl
theorem TbX.fr {X : Nat → Bool} (h : TbX τ w tB V T M) (hf : Fr X τ w τ' w') (hX : ∀ r, 50 ≤ r → r ≤ 56 → X r = false) : TbX τ' w' tB V T M := h.fr' hf (hX 55 (by decide) (by decide)) (hX 56 (by decide) (by decide)) (h.tb.fr hf (fun r h1 h2 => hX r h1 (by omega))) rfl rfl
theorem addXW (h : TbX τ w tB V T M) (x : TR) (hl : T.types.length ≤ 1000000000) : Calls Tryz.prog 149 #[.pointer (some ⟨tB, 0, none⟩), .agg (trC x).toArray] w fun e w' => e = .returned (.int .i32 (T.types.length : Int)) ∧ Hid (∃ τ' v', TbX τ' w' tB { V with t := v' } { T with types := T.types ++ [x] } M ∧ Fr X50 τ w τ' w') :=
  (addTbW h.tb h.dom x hl).mono fun e w' k => ⟨k.1, hid (by
    obtain ⟨τ', v', k1, k2⟩ := k.2.out
    exact ⟨τ', v', h.fr' k2 rfl rfl k1 rfl rfl, k2⟩)⟩
end
end Go.Proofs.Qxb6500883aGreatDoor
