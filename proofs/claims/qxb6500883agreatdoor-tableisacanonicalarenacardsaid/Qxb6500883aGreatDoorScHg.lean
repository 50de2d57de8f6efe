/- lowerDecl (written by tools/mk_schg.py). -/
import Derived.Test.Qxb6500883aGreatDoorScHf
namespace Go.Proofs.Qxb6500883aGreatDoor
open Go.RowKit
set_option linter.unusedSimpArgs false
set_option linter.unusedVariables false
section
variable {N mg : Nat} {ρ : Rl} {w0 w wz : World} {l : PL} {bs : List UInt8} {F : FS} {U : FV} {c : Nat} {V : CV} {gT gV : Nat} {vf rk : Nat → Nat} {L : BLy} {R : Nat} {τ : Rl} {B : BS}
theorem LCx.dcl (h : LCx N mg ρ w0 l bs F U c V gT gV vf rk) {d : Nat} {y : DN} (hy : F.decls[d]? = some y) : ∃ gd qd, U.d = .slice (some ⟨gd, 0, none⟩) F.decls.length qd ∧ ∀ wz, Below w0.heap.size w0 wz → ∀ j, j < 11 → wz.cell? ⟨gd, d * 11 + j, none⟩ = (dnC y)[j]? := by
  obtain ⟨ad, q, hu⟩ := h.m.fr.d.shape
  obtain ⟨gd, e, hlt, hc⟩ := h.m.decl hu hy
  subst e
  exact ⟨gd, q, hu, fun wz hb j hj => by rw [keepCell _ (hb.block gd hlt)]; exact hc j hj⟩
set_option maxRecDepth 100000 in
set_option maxHeartbeats 4000000 in
theorem lowDdone {d : Nat} (hd : d < F.decls.length) {τ : Rl} {w : World} {B : BS} (hM : BdM l.n w0.heap.size τ w L F.decls.length B) {id : Nat} (hdt : B.dt d = (id : Int)) :
    Calls Tryz.prog 99 #[.pointer (some ⟨L.b, 0, none⟩), .int .i32 (d : Int)] w (LwP l.n F vf rk L w0.heap.size R 1 (.dcl d) τ w B) := by
  have b2 := hM.cells.2.2
  obtain ⟨nd, hnd⟩ : ∃ m, F.decls.length = m := ⟨_, rfl⟩
  have cd : w.cell? ⟨L.gD, d, none⟩ = some (.int .i32 (id : Int)) := by
    obtain ⟨_, _, _, _, _, hX, _⟩ := hM
    have := hX.dt.get hd
    rw [hdt] at this
    exact this
  have HF : Hid (∃ (τ' : Rl) (B' : BS), Low F vf (.dcl d) B B' [id] ∧ BdM l.n w0.heap.size τ' w L F.decls.length B' ∧ Fr XL τ w τ' w ∧ B'.size + phi F rk B'.dt R + 1 ≤ B.size + phi F rk B.dt R + 1 ∧ ∀ j, R ≤ rk j → B'.dt j = B.dt j) := hid ⟨τ, B, .done hdt, hM, Fr.refl _ _ _, by omega, fun _ _ => rfl⟩
  rw [hnd] at b2 hd
  have i1 : (d : Int) < (nd : Int) := by omega
  have t1 : ((id : Int) != -1) = true := by simp <;> omega
  clear hM hdt hnd
  go_enter Tryz.func99, Tryz.ntmps99
  go_wp2
  go_ret
  exact ⟨id, rfl, HF⟩
set_option maxRecDepth 100000 in
set_option maxHeartbeats 4000000 in
theorem lowDali (hC : LCx N mg ρ w0 l bs F U c V gT gV vf rk) (hLc : L.c = c) {d r k : Nat} {y : DN} (hy : F.decls[d]? = some y) (hs : y.sort = 1) (hr : y.typ = (r : Int)) (hk : 2 * k + 1 ≤ wtD F d + 0) (hR : rk d < R) (hT : TypC l.n F vf rk L w0 (rk d) r k) {τ : Rl} {w : World} {B : BS} (hM : BdM l.n w0.heap.size τ w L F.decls.length B) (hb : Below w0.heap.size w0 w) (hO : BOk B) (hsz : B.size + phi F rk B.dt R ≤ 1000000000) (hdt : B.dt d = -1) :
    Calls Tryz.prog 99 #[.pointer (some ⟨L.b, 0, none⟩), .int .i32 (d : Int)] w (LwP l.n F vf rk L w0.heap.size R 1 (.dcl d) τ w B) := by
  have hlt := (List.getElem?_eq_some_iff.1 hy).1
  obtain ⟨gd, qd, hud, hnd⟩ := hC.dcl hy
  obtain ⟨nd, hnd1⟩ : ∃ m, F.decls.length = m := ⟨_, rfl⟩
  have c0 := (hC.chk hb).1
  have f1 := (hC.fil hb).1
  rw [hud] at f1
  obtain ⟨b0, b1, b2⟩ := hM.cells
  rw [hLc] at b0
  have cd : w.cell? ⟨L.gD, d, none⟩ = some (.int .i32 (-1)) := by
    obtain ⟨_, _, _, _, _, hX, _⟩ := hM
    have := hX.dt.get hlt
    rw [hdt] at this
    exact this
  rw [hnd1] at hlt b2 f1
  have i1 : (d : Int) < (nd : Int) := by omega
  have n0 : w.cell? ⟨gd, d * 11, none⟩ = some (.int .u8 (y.sort : Int)) := hnd w hb 0 (by decide)
  have n3 : w.cell? ⟨gd, d * 11 + 3, none⟩ = some (.int .i32 (r : Int)) := by rw [hnd w hb 3 (by decide), ← hr]; rfl
  rw [hs] at n0
  have hin := phi_in (F := F) (rk := rk) (dt := B.dt) (R := R) (by rw [hnd1]; exact hlt) hdt hR
  have HA := hid (hT τ w B hM hb hO (by omega))
  have Hlt : Hid (d < F.decls.length) := hid (by rw [hnd1]; exact hlt)
  have Hnd1 := hid hnd1
  have Hx := hid (And.intro hy (And.intro hs (And.intro hdt hr)))
  have Hin := hid hin
  have HK := hid (And.intro hk hR)
  have HW := hid (And.intro hC.wf hO)
  clear hC hM hb hO hT hud hnd hy hs hr hk hsz hdt hLc hnd1 hin
  go_enter Tryz.func99, Tryz.ntmps99
  go_wp2_with fail
  refine HA.out.mono ?_
  rintro e w1 ⟨id, rfl, h1⟩
  clear HA n0 n3 c0 f1 b0 b1 b2 cd
  obtain ⟨τ1, B1, k1, k2, k3, k4, k5⟩ := h1.out
  obtain ⟨V1, ms, mu, vF, fps, hX, hfl, hfn, hg1⟩ := k2
  have HX := hid hX
  have b2' := hX.cells.2.2.1
  have cd' := hX.dt.get Hlt.out
  have fd' := hX.dt.frozen d
  rw [Hnd1.out] at b2'
  have HF : Hid (∃ (τ' : Rl) (B' : BS), Low F vf (.dcl d) B B' [id] ∧ BdM l.n w0.heap.size τ' (w1.setCell ⟨L.gD, d, none⟩ (.int .i32 (id : Int))) L F.decls.length B' ∧ Fr XL τ w τ' (w1.setCell ⟨L.gD, d, none⟩ (.int .i32 (id : Int))) ∧ B'.size + phi F rk B'.dt R + 1 ≤ B.size + phi F rk B.dt R + 1 ∧ ∀ j, R ≤ rk j → B'.dt j = B.dt j) := hid (by
    obtain ⟨e1, e2, _⟩ := HX.out.setD Hlt.out (id : Int)
    have hd1 : B1.dt d = -1 := by rw [k5 d (Nat.le_refl _)]; exact Hx.out.2.2.1
    have hps := phi_set (F := F) (rk := rk) (dt := B1.dt) (R := R) (i := (id : Int)) Hlt.out hd1 HK.out.2 (by omega)
    have hpd := phi_diff (F := F) (rk := rk) (R := R) (R' := rk d) k5 (by have := HK.out.2; omega)
    have hin := Hin.out
    have hk := HK.out.1
    refine ⟨τ1, B1.set d (id : Int), .ali Hx.out.1 Hx.out.2.1 Hx.out.2.2.1 Hx.out.2.2.2 k1, ⟨V1, ms, mu, vF, fps, e1, hfl, hfn, hg1⟩, k3.trans e2, ?_, fun j hj => ?_⟩
    · show B1.size + phi F rk (fup B1.dt d (id : Int)) R + 1 ≤ _
      omega
    · show fup B1.dt d (id : Int) j = B.dt j
      have := HK.out.2
      rw [fup_ne _ _ (by intro e; subst e; omega)]
      exact k5 j (by omega))
  clear h1 k1 k3 k4 k5 hX hfl hfn hg1 HX Hin HK HW Hx Hlt Hnd1
  go_wp2
  go_ret
  exact ⟨id, rfl, HF⟩
end
end Go.Proofs.Qxb6500883aGreatDoor
