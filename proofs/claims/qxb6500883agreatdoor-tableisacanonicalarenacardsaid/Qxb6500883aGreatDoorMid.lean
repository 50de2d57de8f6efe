/- Whole structs out of and into blocks, by value, whatever their number of cells. -/
import Derived.Test.Qxb6500883aGreatDoorRet
import Derived.Test.Qxb6500883aGreatDoorCopy
import Derived.Deep.MidRow
import Derived.BigQuiet
namespace Go.Proofs.Qxb6500883aGreatDoor
open Go.RowKit
set_option linter.unusedSimpArgs false
set_option linter.unusedVariables false
section
variable {P : Program} {w : World} {g : Nat} {t : TypeId} {cs ds : List Value}
theorem Blk.rangeAt (hb : Blk w g t cs) : w.rangeAt g 0 cs := fun j v hv => by rw [Nat.zero_add, hb.cell]; exact hv
theorem Blk.rangeMid (hb : Blk w g t cs) {o n : Nat} (ds : List Value) (h : ∀ j v, ds[j]? = some v → cs[o + j]? = some v) : w.rangeAt g o ds := fun j v hv => by rw [hb.cell]; exact h j v hv
theorem Blk.thereAt (hb : Blk w g t cs) {o n : Nat} (h : o + n ≤ cs.length) : w.there g o n := fun j hj => by
  rw [hb.cell, hb.frozen, List.getElem?_eq_getElem (show o + j < cs.length by omega)]
  exact ⟨rfl, rfl⟩
theorem splice_nil (cs : List Value) (o : Nat) : splice cs o [] = cs := by simp [splice]
theorem splice_cons (cs : List Value) (o : Nat) (v : Value) (r : List Value) (h : o < cs.length) : splice cs o (v :: r) = splice (cs.set o v) (o + 1) r := by
  unfold splice
  apply List.ext_getElem?
  intro i
  rw [List.take_add_one, List.getElem?_set_self h, List.take_set, List.drop_set]
  simp only [List.append_assoc, Option.toList_some, List.cons_append, List.nil_append, List.length_cons]
  rw [List.set_eq_of_length_le (by simp; omega)]
  rw [if_pos (by omega)]
  rw [show o + (r.length + 1) = o + 1 + r.length by omega]
theorem Blk.setCells : ∀ (vs : List Value) (o : Nat) {w : World} {cs : List Value}, Blk w g t cs → o + vs.length ≤ cs.length → Blk (w.setCells g o vs) g t (splice cs o vs)
  | [], o, w, cs, hb, _ => by rw [splice_nil]; exact hb
  | v :: r, o, w, cs, hb, h => by
    simp only [List.length_cons] at h
    rw [splice_cons cs o v r (by omega)]
    exact Blk.setCells r (o + 1) (hb.set o v) (by simp; omega)
theorem Upd.setCells (g : Nat) : ∀ (vs : List Value) (o : Nat) {a w : World}, Upd g a w → Upd g a (w.setCells g o vs)
  | [], o, a, w, h => h
  | v :: r, o, a, w, h => Upd.setCells g r (o + 1) (h.setCell (p := ⟨g, o, none⟩) rfl v)
theorem splice_all (h : cs.length = ds.length) : splice cs 0 ds = ds := by
  unfold splice
  rw [List.take_zero, List.nil_append, List.drop_of_length_le (by omega), List.append_nil]
theorem wpList_load_blk {ops : Array Oper} {rest : List Oper} {op : Oper} {a : Act} {Q : Exit → Act → World → Prop} (hgd : op.guard = none) (ty : TypeId) (x : Operand) (ho : op.op = .load ty x)
    (g : Nat) (hx : a.eval x = .pointer (some ⟨g, 0, none⟩)) (cs : List Value) {t : TypeId} (hb : Blk w g t cs) (d : TypeDesc) (hu : P.underlying ty = some d) (hd : d.isRow = true) (hi : (P.info? ty).map (·.size) = some cs.length)
    (h : wpList P ops Q rest (a.put op.dst (.agg cs.toArray)) w) : wpList P ops Q (op :: rest) a w :=
  wpList_load_mid hgd ty x ho g 0 hx cs d hb.rangeAt hu hd hi h
theorem wpList_store_blk {ops : Array Oper} {rest : List Oper} {op : Oper} {a : Act} {Q : Exit → Act → World → Prop} (hgd : op.guard = none) (ty : TypeId) (x y : Operand) (ho : op.op = .store ty x y)
    (g : Nat) (hx : a.eval x = .pointer (some ⟨g, 0, none⟩)) (ds : List Value) (hy : a.eval y = .agg ds.toArray) {cs : List Value} {t : TypeId} (hb : Blk w g t cs) (hl : cs.length = ds.length)
    (hi : (P.info? ty).map (·.size) = some ds.length) (h1 : ∀ v ∈ ds, v.oneCell' = true)
    (h : ∀ w', Hid (Blk w' g t ds) → Hid (Upd g w w') → wpList P ops Q rest (a.put op.dst undef) w') : wpList P ops Q (op :: rest) a w :=
  wpList_store_mid hgd ty x y ho g 0 ds.toArray hx hy (hb.thereAt (by simp; omega)) (by simpa using hi) (all_oneCell_toArray h1)
    (h _ (hid (by have := Blk.setCells ds 0 hb (by omega); rw [splice_all hl] at this; exact this)) (hid (Upd.setCells g ds 0 (Upd.refl g w))))
/-- A guarded load that is wanted. -/
theorem wpList_load_blk_w {ops : Array Oper} {rest : List Oper} {op : Oper} {a : Act} {Q : Exit → Act → World → Prop} (hw : Region.wanted op (yielded ops a.tmps) = true) (ty : TypeId) (x : Operand) (ho : op.op = .load ty x)
    (g : Nat) (hx : a.eval x = .pointer (some ⟨g, 0, none⟩)) (cs : List Value) {t : TypeId} (hb : Blk w g t cs) (d : TypeDesc) (hu : P.underlying ty = some d) (hd : d.isRow = true) (hi : (P.info? ty).map (·.size) = some cs.length)
    (h : wpList P ops Q rest (a.put op.dst (.agg cs.toArray)) w) : wpList P ops Q (op :: rest) a w := by
  unfold wpList
  rw [if_pos hw]
  exact .inl (wp_load_mid ty x ho g 0 hx cs d hb.rangeAt hu hd hi h)
theorem wpList_load_mid_w {ops : Array Oper} {rest : List Oper} {op : Oper} {a : Act} {Q : Exit → Act → World → Prop} (hw : Region.wanted op (yielded ops a.tmps) = true) (ty : TypeId) (x : Operand) (ho : op.op = .load ty x)
    (g o : Nat) (hx : a.eval x = .pointer (some ⟨g, o, none⟩)) (cs : List Value) (hc : w.rangeAt g o cs) (d : TypeDesc) (hu : P.underlying ty = some d) (hd : d.isRow = true) (hi : (P.info? ty).map (·.size) = some cs.length)
    (h : wpList P ops Q rest (a.put op.dst (.agg cs.toArray)) w) : wpList P ops Q (op :: rest) a w := by
  unfold wpList
  rw [if_pos hw]
  exact .inl (wp_load_mid ty x ho g o hx cs d hc hu hd hi h)
/-- A load of many cells in a quiet walk. -/
theorem quiet_load {ops : Array Oper} {C : World → Prop} {Q : Act → Prop} {a : Act} {op : Oper} {rest : List Oper} (hw : Region.wanted op (yielded ops a.tmps) = true) (ty : TypeId) (x : Operand) (ho : op.op = .load ty x) (ad : Addr)
    (hx : a.eval x = .pointer (some ad)) (v : Value) (hr : ∀ w, C w → (Instr.loadAt ty (.pointer (some ad))).run P w = .ok v w) (h : wpQuiet P ops C Q rest (a.put op.dst v)) : wpQuiet P ops C Q (op :: rest) a := by
  unfold wpQuiet
  rw [if_pos hw]
  refine ⟨v, fun w hC => ?_, h⟩
  have e : (execOp a.eval op).run P w = .ok (.value v) w := by simp [execOp, ho, hx, hr w hC]
  unfold Oper.quietAt
  rw [e]
  exact ⟨rfl, rfl⟩
theorem results_cell_tmp {fn : Func} {tmps : Array Value} {s u : Nat} {t' : TypeId} (hr : fn.results = #[.cell s t, .tmp u])
    (hs : tmps.getD s undef = .pointer (some ⟨g, 0, none⟩)) (ha : AggOf P t cs.length) (hb : Blk w g t' cs) :
    (results fn tmps).run P w = .ok (.tuple #[.agg cs.toArray, tmps.getD u undef]) w := by
  have hl := run_loadVar_blk ha hb
  have hs' : tmps[s]?.getD undef = .pointer (some ⟨g, 0, none⟩) := by simpa using hs
  simp [results, hr, hs', asAddr, hl]
end
end Go.Proofs.Qxb6500883aGreatDoor
