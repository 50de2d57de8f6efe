/- lowerType (written by tools/mk_schc.py). -/
import Derived.Test.Qxb6500883aGreatDoorScHb
namespace Go.Proofs.Qxb6500883aGreatDoor
open Go.RowKit
set_option linter.unusedSimpArgs false
set_option linter.unusedVariables false
/-- What a lowering comes to. -/
def LwP (n : Nat) (F : FS) (vf rk : Nat → Nat) (L : BLy) (n0 R c : Nat) (job : LJ) (τ : Rl) (w : World) (B : BS) (e : Ending) (w' : World) : Prop :=
  ∃ (id : Nat), e = .returned (.int .i32 (id : Int)) ∧ Hid (∃ (τ' : Rl) (B' : BS), Low F vf job B B' [id] ∧ BdM n n0 τ' w' L F.decls.length B' ∧ Fr XL τ w τ' w' ∧ B'.size + phi F rk B'.dt R + 1 ≤ B.size + phi F rk B.dt R + c ∧ ∀ j, R ≤ rk j → B'.dt j = B.dt j)
/-- lowerType at r, where the names below it have ranks under R and its tree has k nodes. -/
def TypC (n : Nat) (F : FS) (vf rk : Nat → Nat) (L : BLy) (w0 : World) (R r k : Nat) : Prop :=
  ∀ (τ : Rl) (w : World) (B : BS), BdM n w0.heap.size τ w L F.decls.length B → Below w0.heap.size w0 w → BOk B → B.size + phi F rk B.dt R + 2 * k ≤ 1000000000 → Calls Tryz.prog 121 #[.pointer (some ⟨L.b, 0, none⟩), .int .i32 (r : Int)] w (LwP n F vf rk L w0.heap.size R (2 * k) (.typ r) τ w B)
def DclC (n : Nat) (F : FS) (vf rk : Nat → Nat) (L : BLy) (w0 : World) (R d : Nat) : Prop :=
  ∀ (τ : Rl) (w : World) (B : BS), BdM n w0.heap.size τ w L F.decls.length B → Below w0.heap.size w0 w → BOk B → B.size + phi F rk B.dt R ≤ 1000000000 → Calls Tryz.prog 99 #[.pointer (some ⟨L.b, 0, none⟩), .int .i32 (d : Int)] w (LwP n F vf rk L w0.heap.size R 1 (.dcl d) τ w B)
section
variable {N mg : Nat} {ρ : Rl} {w0 w wz : World} {l : PL} {bs : List UInt8} {F : FS} {U : FV} {c : Nat} {V : CV} {gT gV : Nat} {vf rk : Nat → Nat} {L : BLy} {R : Nat} {τ : Rl} {B : BS}
theorem Below.frL {τ' : Rl} {w' : World} {B0 : World} (h : Fr XL τ w τ' w') (hl : ∀ g, τ g ≠ 0 → B0.heap.size ≤ g) (hb : Below B0.heap.size B0 w) : Below B0.heap.size B0 w' := hb.trans ⟨h.os, h.tape, h.output, h.size, fun g hg => h.blk g (Nat.lt_of_lt_of_le hg (by have := hb.size; exact this)) (by
  have : τ g = 0 := by
    cases e : τ g with
    | zero => rfl
    | succ z => have := hl g (by rw [e]; exact Nat.succ_ne_zero z); omega
  rw [this]; rfl)⟩
set_option maxRecDepth 100000 in
set_option maxHeartbeats 4000000 in
theorem lowTbasic (hC : LCx N mg ρ w0 l bs F U c V gT gV vf rk) (hLc : L.c = c) {r : Nat} {x : TN} (hx : F.types[r]? = some x) (h : x.form = 0) : TypC l.n F vf rk L w0 R r 1 := by
  intro τ w B hM hb hO hsz
  have hlt := (List.getElem?_eq_some_iff.1 hx).1
  obtain ⟨gt, qt, hut, hnd⟩ := hC.node hx
  obtain ⟨nt, hnt⟩ : ∃ m, F.types.length = m := ⟨_, rfl⟩
  rw [hnt] at hut hlt
  have c0 := (hC.chk hb).1
  have f2 := (hC.fil hb).2.1
  rw [hut] at f2
  obtain ⟨b0, b1, _⟩ := hM.cells
  rw [hLc] at b0
  have n0 : w.cell? ⟨gt, r * 8, none⟩ = some (.int .u8 (x.form : Int)) := hnd w hb 0 (by decide)
  have n1 : w.cell? ⟨gt, r * 8 + 1, none⟩ = some (.int .i32 (x.basic : Int)) := hnd w hb 1 (by decide)
  have HF : Hid (∃ (τ' : Rl) (B' : BS), Low F vf (.typ r) B B' [x.basic] ∧ BdM l.n w0.heap.size τ' w L F.decls.length B' ∧ Fr XL τ w τ' w ∧ B'.size + phi F rk B'.dt R + 1 ≤ B.size + phi F rk B.dt R + 2 * 1 ∧ ∀ j, R ≤ rk j → B'.dt j = B.dt j) := hid ⟨τ, B, .basic hx h, hM, Fr.refl _ _ _, by omega, fun _ _ => rfl⟩
  rw [h] at n0
  clear hC hM hb hO hsz hnd hut hnt hx h hLc
  go_enter Tryz.func121, Tryz.ntmps121
  go_wp2
  go_ret
  exact ⟨x.basic, rfl, HF⟩
set_option maxRecDepth 100000 in
set_option maxHeartbeats 4000000 in
theorem lowTnone (hC : LCx N mg ρ w0 l bs F U c V gT gV vf rk) (hLc : L.c = c) {r : Nat} {x : TN} (hx : F.types[r]? = some x) (h : x.form = 1) : TypC l.n F vf rk L w0 R r 1 := by
  intro τ w B hM hb hO hsz
  have hlt := (List.getElem?_eq_some_iff.1 hx).1
  obtain ⟨gt, qt, hut, hnd⟩ := hC.node hx
  obtain ⟨nt, hnt⟩ : ∃ m, F.types.length = m := ⟨_, rfl⟩
  rw [hnt] at hut hlt
  have c0 := (hC.chk hb).1
  have f2 := (hC.fil hb).2.1
  rw [hut] at f2
  obtain ⟨b0, b1, _⟩ := hM.cells
  rw [hLc] at b0
  have n0 : w.cell? ⟨gt, r * 8, none⟩ = some (.int .u8 (x.form : Int)) := hnd w hb 0 (by decide)
  skip
  have HF : Hid (∃ (τ' : Rl) (B' : BS), Low F vf (.typ r) B B' [0] ∧ BdM l.n w0.heap.size τ' w L F.decls.length B' ∧ Fr XL τ w τ' w ∧ B'.size + phi F rk B'.dt R + 1 ≤ B.size + phi F rk B.dt R + 2 * 1 ∧ ∀ j, R ≤ rk j → B'.dt j = B.dt j) := hid ⟨τ, B, .non hx h, hM, Fr.refl _ _ _, by omega, fun _ _ => rfl⟩
  rw [h] at n0
  clear hC hM hb hO hsz hnd hut hnt hx h hLc
  go_enter Tryz.func121, Tryz.ntmps121
  go_wp2
  go_ret
  exact ⟨0, rfl, HF⟩
set_option maxRecDepth 100000 in
set_option maxHeartbeats 4000000 in
theorem lowTname (hC : LCx N mg ρ w0 l bs F U c V gT gV vf rk) (hLc : L.c = c) {r d : Nat} {x : TN} (hx : F.types[r]? = some x) (h : x.form = 2) (hd : tDA F r = (d : Int)) (hD : DclC l.n F vf rk L w0 R d) : TypC l.n F vf rk L w0 R r 1 := by
  intro τ w B hM hb hO hsz
  have hlt := (List.getElem?_eq_some_iff.1 hx).1
  obtain ⟨gt, qt, hut, hnd⟩ := hC.node hx
  obtain ⟨nt, hnt⟩ : ∃ m, F.types.length = m := ⟨_, rfl⟩
  rw [hnt] at hut hlt
  have c0 := (hC.chk hb).1
  have f2 := (hC.fil hb).2.1
  rw [hut] at f2
  obtain ⟨b0, b1, _⟩ := hM.cells
  rw [hLc] at b0
  have n0 : w.cell? ⟨gt, r * 8, none⟩ = some (.int .u8 (x.form : Int)) := hnd w hb 0 (by decide)
  have c4 := (hC.chk hb).2.1
  have td := hC.rt.below (w' := w) hb
  have tdr := td.get (j := r) (by rw [hnt]; exact hlt)
  rw [hd] at tdr
  rw [hnt] at c4
  have HA := hid (hD τ w B hM hb hO (by omega))
  have Hx := hid (And.intro hx (And.intro h hd))
  rw [h] at n0
  clear hC hM hb hO hD hnd hut hnt hx h hLc hd td
  go_enter Tryz.func121, Tryz.ntmps121
  go_wp2_with fail
  refine HA.out.mono ?_
  rintro e w1 ⟨id, rfl, h1⟩
  have HF : Hid (∃ (τ' : Rl) (B' : BS), Low F vf (.typ r) B B' [id] ∧ BdM l.n w0.heap.size τ' w1 L F.decls.length B' ∧ Fr XL τ w τ' w1 ∧ B'.size + phi F rk B'.dt R + 1 ≤ B.size + phi F rk B.dt R + 2 * 1 ∧ ∀ j, R ≤ rk j → B'.dt j = B.dt j) := hid (by
    obtain ⟨τ', B', k1, k2, k3, k4, k5⟩ := h1.out
    exact ⟨τ', B', .name Hx.out.1 Hx.out.2.1 Hx.out.2.2 k1, k2, k3, by omega, k5⟩)
  clear h1 HA
  go_wp2
  go_ret
  exact ⟨id, rfl, HF⟩
end
end Go.Proofs.Qxb6500883aGreatDoor
