/- MulWide. -/
import Derived.Test.Qxb6500890aDoorTextWideOps
import Derived.Test.Qxb6500890aDoorLast
namespace Go.Proofs.Qxb6500890aDoor
open Go.RowKit
set_option linter.unusedSimpArgs false
set_option linter.unusedVariables false

/-- Two wide parameters in blocks h, h + 1; the result's block h + 2. -/
structure Tri (w : World) (h : Nat) (A B : List Value) (wr : World) : Prop where
  bel : Below w.heap.size w wr
  ba : Blk wr h 87 A
  bb : Blk wr (h + 1) 87 B
  bz : Blk wr (h + 2) 87 zeroL
theorem Tri.below {w wr w' : World} {h : Nat} {A B : List Value} (f : Tri w h A B wr) (hb : Below wr.heap.size wr w') : Tri w h A B w' :=
  ⟨f.bel.trans (hb.mono f.bel.size), f.ba.below hb, f.bb.below hb, f.bz.below hb⟩
theorem Tri.start (w : World) (A B : List Value) : Tri w w.heap.size A B
    (((w.alloc (.cells A.toArray 87)).alloc (.cells B.toArray 87)).alloc (.cells zeroL.toArray 87)) := by
  have s1 : ∀ (x : World) (o : Obj), (x.alloc o).heap.size = x.heap.size + 1 := fun x o => by simp
  refine ⟨?_, ((Blk.new w A _).alloc _).alloc _, ?_, ?_⟩
  · exact Below.alloc (Below.alloc (Below.alloc (Below.refl _ _) (Nat.le_refl _) _) (by rw [s1]; omega) _) (by rw [s1, s1]; omega) _
  · have := (Blk.new (w.alloc (.cells A.toArray 87)) B 87).alloc (.cells zeroL.toArray 87)
    rw [s1] at this
    exact this
  · have := Blk.new ((w.alloc (.cells A.toArray 87)).alloc (.cells B.toArray 87)) zeroL 87
    rw [s1, s1] at this
    exact this
theorem Tri.fin {w wr : World} {h : Nat} {A B : List Value} (f : Tri w h A B wr) (hh : w.heap.size ≤ h) (v0 v1 v2 v3 v4 : Value) :
    Blk (set5 wr (h + 2) v0 v1 v2 v3 v4) (h + 2) 87 [v0, v1, v2, v3, v4] ∧ Below w.heap.size w (set5 wr (h + 2) v0 v1 v2 v3 v4) :=
  ⟨set5_blk f.bz .., f.bel.trans ((set5_upd ..).below (by omega) f.bel.size)⟩
theorem Tri.s {w wr : World} {h : Nat} {A B : List Value} (f : Tri w h A B wr) :
    wr.cell? ⟨h + 1 + 1, 0, none⟩ = some (.bool false) ∧ wr.cell? ⟨h + 1 + 1, 1, none⟩ = some (.int .u32 0) ∧ wr.cell? ⟨h + 1 + 1, 2, none⟩ = some (.int .u32 0) ∧
    wr.cell? ⟨h + 1 + 1, 3, none⟩ = some (.int .u32 0) ∧ wr.cell? ⟨h + 1 + 1, 4, none⟩ = some (.int .u32 0) ∧
    wr.frozen? ⟨h + 1 + 1, 0, none⟩ = false ∧ wr.frozen? ⟨h + 1 + 1, 1, none⟩ = false ∧ wr.frozen? ⟨h + 1 + 1, 2, none⟩ = false ∧ wr.frozen? ⟨h + 1 + 1, 3, none⟩ = false ∧ wr.frozen? ⟨h + 1 + 1, 4, none⟩ = false :=
  ⟨f.bz.cell 0, f.bz.cell 1, f.bz.cell 2, f.bz.cell 3, f.bz.cell 4, f.bz.frozen 0, f.bz.frozen 1, f.bz.frozen 2, f.bz.frozen 3, f.bz.frozen 4⟩
theorem Tri.p {w wr : World} {h : Nat} {x y : Int} (f : Tri w h (wideL x) (wideL y) wr) :
    wr.cell? ⟨h, 0, none⟩ = some (.bool (decide (x < 0))) ∧ wr.cell? ⟨h, 1, none⟩ = some (.int .u32 (dg x.natAbs 0 : Nat)) ∧ wr.cell? ⟨h, 2, none⟩ = some (.int .u32 (dg x.natAbs 1 : Nat)) ∧
    wr.cell? ⟨h, 3, none⟩ = some (.int .u32 (dg x.natAbs 2 : Nat)) ∧ wr.cell? ⟨h, 4, none⟩ = some (.int .u32 (dg x.natAbs 3 : Nat)) ∧
    wr.cell? ⟨h + 1, 0, none⟩ = some (.bool (decide (y < 0))) ∧ wr.cell? ⟨h + 1, 1, none⟩ = some (.int .u32 (dg y.natAbs 0 : Nat)) ∧ wr.cell? ⟨h + 1, 2, none⟩ = some (.int .u32 (dg y.natAbs 1 : Nat)) ∧
    wr.cell? ⟨h + 1, 3, none⟩ = some (.int .u32 (dg y.natAbs 2 : Nat)) ∧ wr.cell? ⟨h + 1, 4, none⟩ = some (.int .u32 (dg y.natAbs 3 : Nat)) :=
  ⟨f.ba.cell 0, f.ba.cell 1, f.ba.cell 2, f.ba.cell 3, f.ba.cell 4, f.bb.cell 0, f.bb.cell 1, f.bb.cell 2, f.bb.cell 3, f.bb.cell 4⟩
def wideX (z : Int) : Value := .agg #[.bool (decide (z < 0)), .int .u32 (dg z.natAbs 0 : Nat), .int .u32 (dg z.natAbs 1 : Nat), .int .u32 (dg z.natAbs 2 : Nat), .int .u32 (dg z.natAbs 3 : Nat)]
theorem wideX_eq (z : Int) : wideX z = wideV z := rfl

set_option maxRecDepth 100000 in
set_option maxHeartbeats 8000000 in
theorem mulWide_walk (x y : Int) (hx : x.natAbs < 18446744073709551616) (hy : y.natAbs < 18446744073709551616) (w : World) :
    Calls Tryd.prog 77 #[wideV x, wideV y] w fun e w' => e = .returned (wideV (x * y)) ∧ Below w.heap.size w w' := by
  obtain ⟨h, hh⟩ : ∃ h, w.heap.size = h := ⟨_, rfl⟩
  have HT := hid (Tri.start w (wideL x) (wideL y))
  rw [hh] at HT
  obtain ⟨wr, hwr⟩ : ∃ wr, (((w.alloc (.cells (wideL x).toArray 87)).alloc (.cells (wideL y).toArray 87)).alloc (.cells zeroL.toArray 87)) = wr := ⟨_, rfl⟩
  rw [hwr] at HT
  have HW : Hid (w.heap.size ≤ h) := hid (by omega)
  have hmul : x.natAbs * y.natAbs < 340282366920938463463374607431768211456 := by
    have := Nat.mul_lt_mul'' hx hy
    omega
  have HM := hid (fun w => mulMag_walk x.natAbs y.natAbs hx hy w)
  have HG : Hid (∀ w, Calls Tryd.prog 88 #[.bool (decide (x < 0) != decide (y < 0)), magV (x.natAbs * y.natAbs)] w fun e w' => e = .returned (wideX (x * y)) ∧ Below w.heap.size w w') := hid (fun w => by
    rw [wideX_eq]
    have := signed_walk (decide (x < 0) != decide (y < 0)) (x.natAbs * y.natAbs) hmul w
    rw [mul_sign] at this
    exact this)
  clear hx hy hmul
  obtain ⟨X, W, hT, hI⟩ := class_mk (Tri w h (wideL x) (wideL y))
  have HC : Hid (∀ q w', Below (W q).heap.size (W q) w' → ∃ y, w' = W y) := hid (fun q w' hb => hI _ ((hT q).below hb))
  have H0 : Hid (∃ q, wr.drew = W q) := hid (hI _ (HT.out.below (Drew.below ⟨1, rfl⟩ _)))
  have hne : Nonempty X := ⟨H0.out.choose⟩
  have a0 := fun q => (hT q).p.1
  have a1 := fun q => (hT q).p.2.1
  have a2 := fun q => (hT q).p.2.2.1
  have a3 := fun q => (hT q).p.2.2.2.1
  have a4 := fun q => (hT q).p.2.2.2.2.1
  have b0 := fun q => (hT q).p.2.2.2.2.2.1
  have b1 := fun q => (hT q).p.2.2.2.2.2.2.1
  have b2 := fun q => (hT q).p.2.2.2.2.2.2.2.1
  have b3 := fun q => (hT q).p.2.2.2.2.2.2.2.2.1
  have b4 := fun q => (hT q).p.2.2.2.2.2.2.2.2.2
  have HX := hid hT
  clear hT hI
  generalize hsx : decide (x < 0) = sx at *
  generalize hsy : decide (y < 0) = sy at *
  clear hsx hsy
  unfold wideV
  go_enter Tryd.func77, Tryd.ntmps77
  go_wp2
  have hwr' : (((w.alloc (.cells (wideL x).toArray 87)).alloc (.cells (wideL y).toArray 87)).alloc (Obj.cells #[Value.bool false, Value.int IntKind.u32 0, Value.int IntKind.u32 0, Value.int IntKind.u32 0, Value.int IntKind.u32 0] 87)) = wr := hwr
  rw [hwr']
  clear hwr hwr' hh
  refine wp_region_class_last W rfl (by kernel_rfl) (by kernel_rfl) (by kernel_rfl) H0.out ?_
  dsimp only [List.dropLast, List.getLast]
  repeat (go_big_quiet_step (first
    | (go_at_call 92; exact Calls.class_of HC.out (HM.out _))
    | (go_at_call 88; exact Calls.class_of HC.out (HG.out _))))
  refine wpQuiet_nil ?_
  intro q
  have HT2 := hid (HX.out q)
  generalize W q = wx at *
  clear a0 a1 a2 a3 a4 b0 b1 b2 b3 b4 HX H0 HC hne
  obtain ⟨e0, e1, e2, e3, e4, f0, f1, f2, f3, f4⟩ := HT2.out.s
  have HF := hid (HT2.out.fin HW.out (.bool (decide (x * y < 0))) (dgV (x * y).natAbs 0) (dgV (x * y).natAbs 1) (dgV (x * y).natAbs 2) (dgV (x * y).natAbs 3))
  unfold wideX
  go_wp2
  exact bodyPost_ret (v := wideV (x * y)) (results_blk (g := h + 2) rfl rfl agg_wide HF.out.1) rfl ⟨rfl, HF.out.2⟩
end Go.Proofs.Qxb6500890aDoor
