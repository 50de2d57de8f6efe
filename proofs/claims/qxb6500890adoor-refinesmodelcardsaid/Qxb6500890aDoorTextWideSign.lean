/- signed: a magnitude with a sign. -/
import Derived.Test.Qxb6500890aDoorTextWideMul
import Derived.Test.Qxb6500890aDoorRet
import Derived.Deep.RegionHeld3
namespace Go.Proofs.Qxb6500890aDoor
open Go.RowKit
set_option linter.unusedSimpArgs false
set_option linter.unusedVariables false

def zeroL : List Value := [.bool false, .int .u32 0, .int .u32 0, .int .u32 0, .int .u32 0]
structure Sg (w : World) (h : Nat) (A B : List Value) (wr : World) : Prop where
  bel : Below w.heap.size w wr
  ba : Blk wr h 85 A
  bb : Blk wr (h + 1) 87 B
theorem Sg.below {w wr w' : World} {h : Nat} {A B : List Value} (f : Sg w h A B wr) (hb : Below wr.heap.size wr w') : Sg w h A B w' :=
  ⟨f.bel.trans (hb.mono f.bel.size), f.ba.below hb, f.bb.below hb⟩
theorem Sg.start (w : World) (A B : List Value) : Sg w w.heap.size A B ((w.alloc (.cells A.toArray 85)).alloc (.cells B.toArray 87)) := by
  have s1 : ∀ (x : World) (o : Obj), (x.alloc o).heap.size = x.heap.size + 1 := fun x o => by simp
  refine ⟨Below.alloc (Below.alloc (Below.refl _ _) (Nat.le_refl _) _) (by rw [s1]; omega) _, (Blk.new w A _).alloc _, ?_⟩
  have := Blk.new (w.alloc (.cells A.toArray 85)) B 87
  rw [s1] at this
  exact this

def SgS (w : World) (h m : Nat) (wr : World) : Prop :=
  Hid (Sg w h (magL m) zeroL wr) ∧
  wr.cell? ⟨h, 0, none⟩ = some (.int .u32 (dg m 0 : Nat)) ∧ wr.cell? ⟨h, 1, none⟩ = some (.int .u32 (dg m 1 : Nat)) ∧
  wr.cell? ⟨h, 2, none⟩ = some (.int .u32 (dg m 2 : Nat)) ∧ wr.cell? ⟨h, 3, none⟩ = some (.int .u32 (dg m 3 : Nat)) ∧
  wr.cell? ⟨h + 1, 0, none⟩ = some (.bool false) ∧ wr.cell? ⟨h + 1, 1, none⟩ = some (.int .u32 0) ∧ wr.cell? ⟨h + 1, 2, none⟩ = some (.int .u32 0) ∧
  wr.cell? ⟨h + 1, 3, none⟩ = some (.int .u32 0) ∧ wr.cell? ⟨h + 1, 4, none⟩ = some (.int .u32 0) ∧
  wr.frozen? ⟨h + 1, 0, none⟩ = false ∧ wr.frozen? ⟨h + 1, 1, none⟩ = false ∧ wr.frozen? ⟨h + 1, 2, none⟩ = false ∧ wr.frozen? ⟨h + 1, 3, none⟩ = false ∧ wr.frozen? ⟨h + 1, 4, none⟩ = false
theorem Sg.s {w wr : World} {h m : Nat} (f : Sg w h (magL m) zeroL wr) : SgS w h m wr :=
  ⟨hid f, f.ba.cell 0, f.ba.cell 1, f.ba.cell 2, f.ba.cell 3, f.bb.cell 0, f.bb.cell 1, f.bb.cell 2, f.bb.cell 3, f.bb.cell 4, f.bb.frozen 0, f.bb.frozen 1, f.bb.frozen 2, f.bb.frozen 3, f.bb.frozen 4⟩

theorem Sg.s' {w wr w' : World} {h m : Nat} (hb : Hid (Below wr.heap.size wr w')) (f : Hid (Sg w h (magL m) zeroL wr)) : SgS w h m w' := Sg.s (f.out.below hb.out)
theorem agg_wide : AggOf Tryd.prog 87 5 := AggOf.struct Tryd.underlying87 (by kernel_rfl)
def set5 (w : World) (g : Nat) (v0 v1 v2 v3 v4 : Value) : World :=
  ((((w.setCell ⟨g, 0, none⟩ v0).setCell ⟨g, 1, none⟩ v1).setCell ⟨g, 2, none⟩ v2).setCell ⟨g, 3, none⟩ v3).setCell ⟨g, 4, none⟩ v4
theorem set5_upd (w : World) (g : Nat) (v0 v1 v2 v3 v4 : Value) : Upd g w (set5 w g v0 v1 v2 v3 v4) :=
  ((((((Upd.refl g w).setCell rfl _).setCell rfl _).setCell rfl _).setCell rfl _).setCell rfl _)
theorem set5_blk {w : World} {g : Nat} {t : TypeId} {x0 x1 x2 x3 x4 : Value} (h : Blk w g t [x0, x1, x2, x3, x4]) (v0 v1 v2 v3 v4 : Value) : Blk (set5 w g v0 v1 v2 v3 v4) g t [v0, v1, v2, v3, v4] :=
  ((((h.set 0 v0).set 1 v1).set 2 v2).set 3 v3).set 4 v4
theorem Sg.fin {w wr : World} {h : Nat} {A : List Value} (f : Sg w h A zeroL wr) (hh : w.heap.size ≤ h) (v0 v1 v2 v3 v4 : Value) :
    Blk (set5 wr (h + 1) v0 v1 v2 v3 v4) (h + 1) 87 [v0, v1, v2, v3, v4] ∧ Below w.heap.size w (set5 wr (h + 1) v0 v1 v2 v3 v4) :=
  ⟨set5_blk f.bb .., f.bel.trans ((set5_upd ..).below (by omega) f.bel.size)⟩

set_option maxRecDepth 100000 in
set_option maxHeartbeats 2000000 in
theorem signed_walk (neg : Bool) (m : Nat) (hm : m < 340282366920938463463374607431768211456) (w : World) :
    Calls Tryd.prog 88 #[.bool neg, magV m] w fun e w' => e = .returned (wideV (if neg then -(m : Int) else m)) ∧ Below w.heap.size w w' := by
  obtain ⟨h, hh⟩ : ∃ h, w.heap.size = h := ⟨_, rfl⟩
  have HS := hid (Sg.start w (magL m) zeroL)
  rw [hh] at HS
  obtain ⟨wr, hwr⟩ : ∃ wr, ((w.alloc (.cells (magL m).toArray 85)).alloc (.cells zeroL.toArray 87)) = wr := ⟨_, rfl⟩
  rw [hwr] at HS
  have hs : SgS w h m wr := HS.out.s
  have HZ := fun v => isZero_walk m hm v
  have HM := hid hm
  have HW : Hid (w.heap.size ≤ h) := hid (by omega)
  clear hm
  unfold magV
  cases neg
  · have hz : wideV (if (false : Bool) then -(m : Int) else m) = .agg #[.bool false, dgV m 0, dgV m 1, dgV m 2, dgV m 3] := by
      have : ¬ ((m : Int) < 0) := by omega
      simp [wideV, wideL, magL, this]
    rw [hz]
    clear hz
    go_enter Tryd.func88, Tryd.ntmps88
    go_wp2
    have hwr' : ((w.alloc (Obj.cells (magL m).toArray 85)).alloc (Obj.cells #[Value.bool false, Value.int IntKind.u32 0, Value.int IntKind.u32 0, Value.int IntKind.u32 0, Value.int IntKind.u32 0] 87)) = wr := hwr
    rw [hwr']
    clear hwr hwr' hh
    unfold SgS at hs
    obtain ⟨_, c0, c1, c2, c3, e0, e1, e2, e3, e4, f0, f1, f2, f3, f4⟩ := hs
    have HF := hid (HS.out.fin HW.out (.bool false) (dgV m 0) (dgV m 1) (dgV m 2) (dgV m 3))
    go_region_with (fail)
    all_goals (go_wp2; exact bodyPost_ret (v := .agg #[.bool false, dgV m 0, dgV m 1, dgV m 2, dgV m 3]) (results_blk rfl rfl agg_wide (HF.out.1.drewN 1)) rfl ⟨rfl, HF.out.2.trans (Drew.below ⟨1, rfl⟩ _)⟩)
  · obtain ⟨z, hz0⟩ : ∃ z, decide (m = 0) = z := ⟨_, rfl⟩
    rw [hz0] at HZ
    have hz : wideV (if (true : Bool) then -(m : Int) else m) = .agg #[.bool (!z), dgV m 0, dgV m 1, dgV m 2, dgV m 3] := by
      subst hz0
      by_cases h0 : m = 0
      · subst h0
        simp [wideV, wideL, magL]
      · have : 0 < m := by omega
        simp [wideV, wideL, magL, this, h0]
    rw [hz]
    clear hz hz0
    go_enter Tryd.func88, Tryd.ntmps88
    go_wp2
    have hwr' : ((w.alloc (Obj.cells (magL m).toArray 85)).alloc (Obj.cells #[Value.bool false, Value.int IntKind.u32 0, Value.int IntKind.u32 0, Value.int IntKind.u32 0, Value.int IntKind.u32 0] 87)) = wr := hwr
    rw [hwr']
    clear hwr hwr' hh
    unfold SgS at hs
    obtain ⟨_, c0, c1, c2, c3, e0, e1, e2, e3, e4, f0, f1, f2, f3, f4⟩ := hs
    go_region_with (go_at_call 93; refine (HZ _).mono ?_; rintro e w1 ⟨rfl, hb1⟩; have HS1 := hid ((HS.out.below (Drew.below ⟨1, rfl⟩ _)).below hb1); clear hb1; obtain ⟨_, c0', c1', c2', c3', e0', e1', e2', e3', e4', f0', f1', f2', f3', f4'⟩ := HS1.out.s; have HF := hid (HS1.out.fin HW.out (.bool (!z)) (dgV m 0) (dgV m 1) (dgV m 2) (dgV m 3)); clear c0 c1 c2 c3 e0 e1 e2 e3 e4 f0 f1 f2 f3 f4)
    all_goals (go_wp2; exact bodyPost_ret (v := .agg #[.bool (!z), dgV m 0, dgV m 1, dgV m 2, dgV m 3]) (results_blk rfl rfl agg_wide HF.out.1) rfl ⟨rfl, HF.out.2⟩)
end Go.Proofs.Qxb6500890aDoor
