/- StaleObjectsAreRefused: the law. -/
import Derived.Test.Qxb6500887aGreatAzLb
import Derived.Deep.DeepCutAuto
namespace Go.Proofs.Qxb6500887aGreat
open Go.RowKit
set_option linter.unusedSimpArgs false
set_option linter.unusedVariables false
theorem wantO_even' {h g : Nat} (e : h = 2 * g) (hg : g < 16384) : wantO (65536 + (h : Int)) = 0 := by
  unfold wantO
  rw [if_pos (by unfold InH; omega), if_pos (by omega)]
theorem wantW_in' {x : Int} (h : InH x) : wantW x = 0 := by unfold wantW; rw [if_pos h]
theorem onL_five (L : AL) (S : AS) (x : Int) : ∃ x0 x1 x2 x3 x4, onL L S x = [x0, x1, x2, x3, x4] := by
  have h := onL_len L S x
  match onL L S x, h with
  | [x0, x1, x2, x3, x4], _ => exact ⟨x0, x1, x2, x3, x4, rfl⟩
/-- An object as it was opened at some moment. -/
structure VOk (o : Ob) : Prop where
  ok : ObOk o
  hdr : isHdr (o.raw : Int)
  sz : o.sz = (decSize (o.raw : Int)).toNat
  rf : o.rf = (decRefs (o.raw : Int)).toNat
theorem VOk.of {S : AS} {g : Nat} (hg : g < 16384) (hw : S.W (2 * g) < 18446744073709551616) (h : opC S g = 0) : VOk (opO S g) := by
  obtain ⟨h1, h2, h3, h4⟩ := opC_ok hg hw h
  exact ⟨h2, h1, rfl, rfl⟩
theorem VOk.fresh {S : AS} {o : Ob} (h : VOk o) (hw : S.W o.k = o.raw) : onC S (65536 + (o.k : Int)) = 0 ∧ opO S (gIx (65536 + (o.k : Int))) = o := by
  have h1 := h.ok.k
  have h2 := h.ok.ev
  have h3 := h.sz
  have h4 := h.rf
  have h5 := h.hdr
  have h6 := h.ok.s1
  have e1 : gIx (65536 + (o.k : Int)) = o.k / 2 := by unfold gIx; omega
  have e2 : 2 * (o.k / 2) = o.k := by omega
  have e3 : wantO (65536 + (o.k : Int)) = 0 := wantO_even' (g := o.k / 2) (by omega) (by omega)
  obtain ⟨d1, d2, d3, d4, _⟩ := dec_enc _ (by omega) (by have := h.ok.rw; omega) h5
  constructor
  · unfold onC opC
    rw [if_pos e3, e1, e2, hw, if_pos h5]
    unfold lenOut
    rw [if_neg (by omega), if_neg (by omega)]
  · rw [e1]
    unfold opO
    rw [e2, hw, ← h3, ← h4]
theorem onX {L : AL} {S : AS} {x : Int} {w : World} (h : AM L S w) (hc : onC S x = 0) : ∃ o, onL L S x = obL L o ∧ VOk o ∧ S.W o.k = o.raw := by
  obtain ⟨h1, h2, h3, h4⟩ := onC_ok h hc
  refine ⟨_, h3, VOk.of h2 (h.wl (2 * gIx x)) ?_, rfl⟩
  unfold onC at hc
  rw [if_pos h1] at hc
  exact hc
theorem VOk.ref {S : AS} {o : Ob} (h : VOk o) (hw : S.W o.k = o.raw) (i : Int) : arLoadRefV S (65536 + (o.k : Int)) i = rfV S o i := by
  obtain ⟨h1, h2⟩ := h.fresh hw
  unfold arLoadRefV
  rw [if_pos h1, h2]
theorem VOk.data {S : AS} {o : Ob} (h : VOk o) (hw : S.W o.k = o.raw) (i : Int) : arLoadDataV S (65536 + (o.k : Int)) i = dtV S o i := by
  obtain ⟨h1, h2⟩ := h.fresh hw
  unfold arLoadDataV
  rw [if_pos h1, h2]
/-- Rows of views. -/
def rtV (L : AL) : RK Ob := ⟨69, 57, 6, 48, fun o => [.pointer (some ⟨L.a, 0, none⟩), .int .i64 (o.k : Int), .int .u64 (o.raw : Int), .int .i64 (o.sz : Int), .int .i64 (o.rf : Int), .int .u64 (o.raw : Int)]⟩
theorem okV (L : AL) : RKok Tryz.prog (rtV L) := ⟨Tryz.underlying57, info_of' (z := .agg #[.pointer none, .int .i64 0, .int .u64 0, .int .i64 0, .int .i64 0, .int .u64 0]) (by kernel_rfl) rfl, by show 0 < 6; decide, by show 0 < 48; decide, fun _ => rfl, fun x u hu => by
  simp only [rtV, List.mem_cons, List.not_mem_nil, or_false] at hu
  rcases hu with rfl | rfl | rfl | rfl | rfl | rfl <;> rfl⟩
theorem info_vw : (Tryz.prog.info? 69).map (fun i => (i.zero, i.size, i.bytes)) = some (some (.agg #[.pointer none, .int .i64 0, .int .u64 0, .int .i64 0, .int .i64 0, .int .u64 0]), 6, 48) := by kernel_rfl
theorem wpList_buildV {ops : Array Oper} {rest : List Oper} {op : Oper} {a : Act} {w : World} {Q : Exit → Act → World → Prop} (hg : op.guard = none) (x y : Operand) (ho : op.op = .build 69 #[(0, x), (1, y)]) (v0 v1 v2 v3 v4 : Value) (r : Int) (hx : a.eval x = .agg #[v0, v1, v2, v3, v4]) (hy : a.eval y = .int .u64 r)
    (h : wpList Tryz.prog ops Q rest (a.put op.dst (.agg #[v0, v1, v2, v3, v4, .int .u64 r])) w) : wpList Tryz.prog ops Q (op :: rest) a w := by
  have e : (#[(0, x), (1, y)].map fun (i, x) => (i, a.eval x)).toList = [(0, .agg #[v0, v1, v2, v3, v4]), (1, .int .u64 r)] := by simp [hx, hy]
  have hb : Tryz.prog.built 69 [(0, .agg #[v0, v1, v2, v3, v4]), (1, .int .u64 r)] = some #[v0, v1, v2, v3, v4, .int .u64 r] := by kernel_rfl
  refine wpList_build hg 69 #[(0, x), (1, y)] ho ?_ ?_
  · rw [e, hb]; rfl
  · rw [e, hb]; exact h
/-- A row of one view. -/
theorem wpList_bsV {ops : Array Oper} {rest : List Oper} {o : Oper} {a : Act} {w : World} {Q : Exit → Act → World → Prop} (hg : o.guard = none) (x0 : Operand) (ho : o.op = .buildSlice 57 1 #[(0, x0)])
    (v0 v1 v2 v3 v4 v5 : Value) (h0 : a.eval x0 = .agg #[v0, v1, v2, v3, v4, v5])
    (h : ∀ g w', w.heap.size = g → w.alloc (.cells #[v0, v1, v2, v3, v4, v5] 69) = w' → wpList Tryz.prog ops Q rest (a.put o.dst (.slice (some ⟨g, 0, none⟩) 1 1)) w') : wpList Tryz.prog ops Q (o :: rest) a w := by
  obtain ⟨i, hi, he⟩ := Option.map_eq_some_iff.1 info_vw
  simp only [Prod.mk.injEq] at he
  obtain ⟨e1, e2, e3⟩ := he
  refine wpList_buildSlice hg 57 69 1 _ ho #[v0, v1, v2, v3, v4, v5] i _ Tryz.underlying57 hi e1 (by rw [e2]; decide) (by rw [e2]; decide) ?_ (h _ _ rfl rfl)
  rw [e2]
  simp only [List.map_toArray, List.map_cons, List.map_nil, h0]
  kernel_rfl
/-- Inside the law: the arena, the views. -/
structure SV (w0 : World) (L : AL) (S : AS) (vs : List Ob) (v : Value) (w : World) : Prop where
  ls : LS w0 L S w
  row : OwR (rtV L) w0.heap.size w v vs
  ok : ∀ o ∈ vs, VOk o
  len : vs.length ≤ 12
/-- .. and the step's block. -/
structure SO (w0 : World) (L : AL) (S : AS) (vs : List Ob) (v : Value) (p : Nat) (cs : List Value) (w : World) : Prop where
  sv : SV w0 L S vs v w
  op : Blk w p 31 cs
section
variable {w0 w w' : World} {L : AL} {S S' : AS} {vs : List Ob} {v v' : Value} {p : Nat} {cs : List Value}
theorem SV.below (h : SV w0 L S vs v w) (hb : Below w.heap.size w w') : SV w0 L S vs v w' := ⟨h.ls.below hb, h.row.below hb, h.ok, h.len⟩
theorem SV.step (h : SV w0 L S vs v w) (hu : AU L w S' w') : SV w0 L S' vs v w' := ⟨h.ls.step hu, h.row.stepA h.ls.am hu.u (by show (69 : TypeId) ≠ _; decide) (by show (69 : TypeId) ≠ _; decide) (by show (69 : TypeId) ≠ _; decide), h.ok, h.len⟩
theorem SO.below (h : SO w0 L S vs v p cs w) (hb : Below w.heap.size w w') : SO w0 L S vs v p cs w' := ⟨h.sv.below hb, h.op.below hb⟩
theorem SO.step (h : SO w0 L S vs v p cs w) (hu : AU L w S' w') : SO w0 L S' vs v p cs w' := ⟨h.sv.step hu, h.op.stepA h.sv.ls.am hu.u (by decide) (by decide) (by decide)⟩
theorem SO.app {o : Ob} (h : SO w0 L S vs v p cs w) (hk : Kep w v w') (hr : OwR (rtV L) w0.heap.size w' v' (vs ++ [o])) (ho : VOk o) (hl : vs.length < 12) : SO w0 L S (vs ++ [o]) v' p cs w' := ⟨⟨h.sv.ls.kep h.sv.row hk (by show (69 : TypeId) ≠ _; decide) (by show (69 : TypeId) ≠ _; decide) (by show (69 : TypeId) ≠ _; decide), hr, fun x hx => by
  rcases List.mem_append.1 hx with hx | hx
  · exact h.sv.ok x hx
  · rw [List.mem_singleton.1 hx]; exact ho, by rw [List.length_append]; simp; omega⟩, hk.keep h.op (h.sv.row.ne h.op (by show (_ : TypeId) ≠ 69; decide))⟩
theorem SO.cells {x0 x1 x2 x3 : Value} (h : SO w0 L S vs v p [x0, x1, x2, x3] w) : w.cell? ⟨p, 0, none⟩ = some x0 ∧ w.cell? ⟨p, 1, none⟩ = some x1 ∧ w.cell? ⟨p, 2, none⟩ = some x2 ∧ w.cell? ⟨p, 3, none⟩ = some x3 := ⟨h.op.cell 0, h.op.cell 1, h.op.cell 2, h.op.cell 3⟩
/-- .. and a view's copy. -/
structure SW (w0 : World) (L : AL) (S : AS) (vs : List Ob) (v : Value) (p : Nat) (cs : List Value) (g : Nat) (ws : List Value) (w : World) : Prop where
  so : SO w0 L S vs v p cs w
  vb : Blk w g 69 ws
theorem SW.below {g : Nat} {ws : List Value} (h : SW w0 L S vs v p cs g ws w) (hb : Below w.heap.size w w') : SW w0 L S vs v p cs g ws w' := ⟨h.so.below hb, h.vb.below hb⟩
theorem SW.cells {g : Nat} {x0 x1 x2 x3 y0 y1 y2 y3 y4 y5 : Value} (h : SW w0 L S vs v p [x0, x1, x2, x3] g [y0, y1, y2, y3, y4, y5] w) : (w.cell? ⟨p, 0, none⟩ = some x0 ∧ w.cell? ⟨p, 1, none⟩ = some x1 ∧ w.cell? ⟨p, 2, none⟩ = some x2 ∧ w.cell? ⟨p, 3, none⟩ = some x3) ∧ w.cell? ⟨g, 0, none⟩ = some y0 ∧ w.cell? ⟨g, 1, none⟩ = some y1 ∧ w.cell? ⟨g, 2, none⟩ = some y2 ∧ w.cell? ⟨g, 3, none⟩ = some y3 ∧ w.cell? ⟨g, 4, none⟩ = some y4 ∧ w.cell? ⟨g, 5, none⟩ = some y5 := ⟨h.so.cells, h.vb.cell 0, h.vb.cell 1, h.vb.cell 2, h.vb.cell 3, h.vb.cell 4, h.vb.cell 5⟩
theorem loadK (h : AM L S w) {o : Ob} (ho : ObOk o) : Calls Tryz.prog 23 #[.pointer (some ⟨L.a, 0, none⟩), .int .u64 (65536 + (o.k : Int))] w fun e w' => e = .returned (.tuple #[.int .u64 ((S.W o.k : Nat) : Int), .int .u8 0]) ∧ w' = w := by
  have h1 := ho.k
  have hi : InH (65536 + (o.k : Int)) := by unfold InH; omega
  have := loadZ h (65536 + (o.k : Int))
  rw [if_pos hi, wantW_in' hi, show wIx (65536 + (o.k : Int)) = o.k by unfold wIx; omega] at this
  exact this
end
end Go.Proofs.Qxb6500887aGreat
