/- Rows of bytes; decimal digits (written by tools/mk_scb.py). -/
import Derived.Test.Qxb6500883aGreatDoorSc6
import Derived.Test.Qxb6500883aGreatDoorRowL
import Derived.Test.Qxb6500883aGreatDoorCopy
import Derived.Test.Qxb6500883aGreatDoorLastT
import Derived.Test.Qxb6500883aGreatDoorMid
import Derived.Test.Qxb6500883aGreatDoorPut
import Derived.Test.Qxb6500883aGreatDoorRoom
import Derived.Lib.AppendStr
import Derived.Laws.BytesString
import Derived.Laws.IdiomStrings
namespace Go.Proofs.Qxb6500883aGreatDoor
open Go.RowKit
set_option linter.unusedSimpArgs false
set_option linter.unusedVariables false

theorem stopHere {p : Prop} (h : True → p) : p := h trivial
theorem info_of' {P : Program} {t : TypeId} {n b : Nat} {z : Value} (h : (P.info? t).map (fun i => (i.zero, i.size, i.bytes)) = some (some z, n, b)) (hz : z.cells.size = n) : ∃ i z, P.info? t = some i ∧ i.zero = some z ∧ i.size = n ∧ i.bytes = b ∧ z.cells.size = n := by
  cases hi : P.info? t with
  | none => rw [hi] at h; cases h
  | some i =>
    rw [hi] at h
    simp only [Option.map_some, Option.some.injEq, Prod.mk.injEq] at h
    exact ⟨i, z, rfl, h.1, h.2.1, h.2.2, hz⟩
def byV (b : UInt8) : Value := .int .u8 (b.toNat : Int)
def rtB : RK UInt8 := ⟨5, 28, 1, 1, fun b => [byV b]⟩
theorem okB : RKok Tryz.prog rtB := ⟨Tryz.underlying28, info_of' (z := .int .u8 0) (by kernel_rfl) rfl, by decide, by decide, fun _ => rfl, fun x u hu => by simp [rtB, byV] at hu; subst hu; rfl⟩
theorem rtB_flat (bs : List UInt8) : bs.flatMap rtB.f = bs.map byV := by
  induction bs with
  | nil => rfl
  | cons b bs ih => rw [List.flatMap_cons, ih]; rfl
theorem byV_str (s : ByteArray) : Go.Lib.strCells s = s.data.toList.map byV := rfl
section
variable {w w' w0 : World} {n0 : Nat} {v v' : Value} {bs : List UInt8}
set_option maxRecDepth 100000 in
theorem OwR.str {ax : Option Addr} {n q : Nat} (h : OwR rtB n0 w (.slice ax n q) bs) : (convert 28 9 (.slice ax n q)).run Tryz.prog w = .ok (.string ⟨bs.toArray⟩) w := by
  have hn : bs.length = n := h.rx.src.2.2
  rcases h.2 with ⟨h1, h2⟩ | ⟨g, cap, cur, h1, h2, h3, h4⟩
  · injection h1 with e1 e2 e3
    subst e1 e2 e3
    obtain rfl : bs = [] := List.eq_nil_of_length_eq_zero hn
    rw [run_convert_bytes_string w 28 9 5 none 0 0 Tryz.underlying28 Tryz.underlying5 Tryz.underlying9]; rfl
  · injection h1 with e1 e2 e3
    subst e1
    rw [← hn]
    refine run_convert_bytes_back w 28 9 5 ⟨g, 0, none⟩ q bs Tryz.underlying28 Tryz.underlying5 Tryz.underlying9 (fun j hj => ?_)
    have := h.rx.src.1 ⟨g, 0, none⟩ rfl j (byV bs[j]) (by rw [rtB_flat, List.getElem?_map, List.getElem?_eq_getElem hj]; rfl)
    exact this
/-- A string appended to a row of bytes. -/
theorem wpList_app_s {ops : Array Oper} {rest : List Oper} {o : Oper} {a : Act} {Q : Exit → Act → World → Prop} (hgd : o.guard = none) (sl x : Operand) (hA : OwR rtB n0 w v bs)
    (ho : o.op = .call { callee := .builtin .append, args := #[sl, x], argTypes := #[28, 9] })
    (hs : a.eval sl = v) (s : ByteArray) (hx : a.eval x = .string s) (hb : bs.length + s.size ≤ 140737488355328) (h0 : n0 ≤ w.heap.size)
    (h : ∀ v' w', Hid (OwR rtB n0 w' v' (bs ++ s.data.toList)) → Hid (Kep w v w') → wpList Tryz.prog ops Q rest (a.put o.dst v') w') : wpList Tryz.prog ops Q (o :: rest) a w := by
  obtain ⟨i0, z0, hi, hz0, hz1, hz2, hz3⟩ := okB.info
  have hz : i0.zero = some (.int .u8 0) := by
    have : (Tryz.prog.info? 5).map (·.zero) = some (some (.int .u8 0)) := by kernel_rfl
    rw [show Tryz.prog.info? 5 = some i0 from hi] at this
    simpa using this
  have hA' : w.ownsRow n0 5 1 v bs.length (bs.map byV) := by rw [← rtB_flat]; exact hA
  refine Go.Lib.wpList_append_own_string w hgd sl x 28 9 ho n0 5 i0 okB.un Tryz.underlying9 hi hz hz1 hz2 v bs.length (bs.map byV) hs hA' s hx (by unfold maxLen; omega) hb h0 ?_
  intro v' w' h1 h2 h3
  refine h v' w' (hid ?_) (hid ⟨h2.os, h2.tape, h2.output, h2.size, fun k hk hne => h2.block k hk (fun e => hne k e.symm rfl)⟩)
  unfold OwR
  rw [List.length_append, rtB_flat, List.map_append]
  exact h1
/-- What appending some bytes gives. -/
structure ApB (n0 : Nat) (w : World) (bs : List UInt8) (k : Nat) (w' : World) (v' : Value) : Prop where
  row : ∃ ds : List UInt8, ds.length ≤ k ∧ OwR rtB n0 w' v' (bs ++ ds)
  bel : Below n0 w w'
  kt : ∀ g t cs, Blk w g t cs → t ≠ 5 → Blk w' g t cs
theorem ApB.start (h : OwR rtB n0 w v bs) : ApB n0 w bs 0 w v := ⟨⟨[], Nat.le_refl _, by rw [List.append_nil]; exact h⟩, Below.refl _ _, fun _ _ _ h _ => h⟩
theorem ApB.below {k : Nat} (h : ApB n0 w bs k w' v') {w'' : World} (h0 : n0 ≤ w.heap.size) (hb : Below w'.heap.size w' w'') : ApB n0 w bs k w'' v' := by
  obtain ⟨ds, h1, h2⟩ := h.row
  exact ⟨⟨ds, h1, h2.below hb⟩, h.bel.trans (hb.mono (Nat.le_trans h0 h.bel.size)), fun g t cs hg ht => (h.kt g t cs hg ht).below hb⟩
theorem ApB.trans {k k' : Nat} {w'' : World} {v'' : Value} {ds : List UInt8} (h : ApB n0 w bs k w' v') (hd : ds.length ≤ k) (h2 : ApB n0 w' (bs ++ ds) k' w'' v'') : ApB n0 w bs (k + k') w'' v'' := by
  obtain ⟨es, h3, h4⟩ := h2.row
  exact ⟨⟨ds ++ es, by rw [List.length_append]; omega, by rw [← List.append_assoc]; exact h4⟩, h.bel.trans h2.bel, fun g t cs hg ht => h2.kt g t cs (h.kt g t cs hg ht) ht⟩
theorem ApB.kep {k : Nat} {ds es : List UInt8} {w'' : World} {v'' : Value} (h : ApB n0 w bs k w' v') (h0 : n0 ≤ w.heap.size) (hr : OwR rtB n0 w' v' (bs ++ ds)) (hd : ds.length ≤ k) (hk : Kep w' v' w'') (hr2 : OwR rtB n0 w'' v'' (bs ++ ds ++ es)) : ApB n0 w bs (k + es.length) w'' v'' :=
  h.trans hd ⟨⟨es, Nat.le_refl _, hr2⟩, hk.below hr.hi (Nat.le_trans h0 h.bel.size), fun g t cs hg ht => hk.keep hg (hr.ne hg ht)⟩
theorem ApB.mono {k k' : Nat} (h : ApB n0 w bs k w' v') (hk : k ≤ k') : ApB n0 w bs k' w' v' := by
  obtain ⟨ds, h1, h2⟩ := h.row
  exact ⟨⟨ds, Nat.le_trans h1 hk, h2⟩, h.bel, h.kt⟩
theorem ApB.other {k g : Nat} {t : TypeId} {cs : List Value} (h : ApB n0 w bs k w' v') (h0 : n0 ≤ w.heap.size) (hg : w.heap.size ≤ g) (hb : Blk w' g t cs) (ht : t ≠ 5) (i : Nat) (u : Value) : ApB n0 w bs k (w'.setCell ⟨g, i, none⟩ u) v' := by
  have hu : Upd g w' (w'.setCell ⟨g, i, none⟩ u) := (Upd.refl g w').setCell rfl _
  obtain ⟨ds, h1, h2⟩ := h.row
  exact ⟨⟨ds, h1, h2.upd hu (h2.ne hb ht)⟩, h.bel.trans (hu.below (Nat.le_trans h0 hg) (Nat.le_trans h0 h.bel.size)), fun g' t' cs' hg' ht' => (h.kt g' t' cs' hg' ht').upd hu (by have := hg'.lt; omega)⟩
/-- Twenty digits. -/
def DBk (g : Nat) (w : World) : Prop := ∃ ds : List UInt8, ds.length = 20 ∧ Blk w g 142 (ds.map byV)
theorem DBk.below {g : Nat} (h : DBk g w) (hb : Below w.heap.size w w') : DBk g w' := by
  obtain ⟨ds, h1, h2⟩ := h
  exact ⟨ds, h1, h2.below hb⟩
theorem DBk.put {g : Nat} (h : DBk g w) (i : Nat) (x : Nat) (hx : x < 256) : DBk g (w.setCell ⟨g, i, none⟩ (.int .u8 (x : Int))) := by
  obtain ⟨ds, h1, h2⟩ := h
  refine ⟨ds.set i (UInt8.ofNat x), by simpa using h1, ?_⟩
  have := h2.set i (.int .u8 (x : Int))
  rw [List.map_set]
  have e : byV (UInt8.ofNat x) = .int .u8 (x : Int) := by
    unfold byV
    congr 1
    rw [UInt8.toNat_ofNat']
    omega
  rw [e]
  exact this
theorem DBk.cell {g : Nat} (h : DBk g w) {i : Nat} (hi : i < 20) : (∃ v : Value, w.cell? ⟨g, i, none⟩ = some v) ∧ w.frozen? ⟨g, i, none⟩ = false := by
  obtain ⟨ds, h1, h2⟩ := h
  exact ⟨⟨(ds.map byV)[i]'(by rw [List.length_map]; omega), by rw [h2.cell i, List.getElem?_eq_getElem]⟩, h2.frozen i⟩
theorem slice_dg (g j : Nat) (hj : j < 20) (w : World) : (Instr.sliceAt 142 (.pointer (some ⟨g, 0, none⟩)) (some (.int .i64 (j : Int))) none none).run Tryz.prog w = .ok (.slice (some ⟨g, j, none⟩) (20 - j) (20 - j)) w := by
  have e1 : ¬ (20 = j) := by omega
  have e2 : j ≤ 20 := by omega
  have e3 : ¬ (20 < j) := by omega
  have e4 : (j : Int) ≤ 20 := by omega
  simp [Instr.sliceAt, go_sem, Instr.sliceBounds, e1, e2, e3, e4, Addr.add]
  intro h0
  rw [h0]
set_option maxRecDepth 100000 in
set_option maxHeartbeats 2000000 in
theorem appendUintZ {ax : Option Addr} {m q : Nat} (hr : OwR rtB n0 w (.slice ax m q) bs) (h0 : n0 ≤ w.heap.size) (n : Nat) (hn : n < 18446744073709551616) (hl : bs.length ≤ 1000000) : Calls Tryz.prog 50 #[.slice ax m q, .int .u64 (n : Int)] w fun e w' => ∃ v : Value, e = .returned v ∧ Hid (ApB n0 w bs 20 w' v) := by
  obtain ⟨g, hg⟩ : ∃ g, w.heap.size = g := ⟨_, rfl⟩
  have HR := hid hr
  have HG : Hid (w.heap.size ≤ g) := hid (by omega)
  have H1 : Hid (ApB n0 w bs 0 (w.alloc (.cells (List.replicate 20 (.int .u8 0)).toArray 142)) (.slice ax m q) ∧ DBk g (w.alloc (.cells (List.replicate 20 (.int .u8 0)).toArray 142))) := hid (by
    have kk := Blk.new w (List.replicate 20 (.int .u8 0)) 142
    rw [hg] at kk
    exact ⟨(ApB.start hr).below h0 (nbel w _), ⟨List.replicate 20 0, rfl, kk⟩⟩)
  simp only [List.replicate] at H1
  clear hr
  go_enter Tryz.func50, Tryz.ntmps50
  go_upto_region 2 with fail
  (try simp only [hg])
  generalize hw1 : w.alloc _ = w1 at H1 ⊢
  clear hw1 hg
  go_upto_region 3 with fail
  go_loopw [1, 6] (fun t u wr => ∃ y k : Nat, t = .int .u64 (y : Int) ∧ u = .int .i64 (k : Int) ∧ 1 ≤ k ∧ k ≤ 20 ∧ y < 18446744073709551616 ∧ Hid (y < 10 ^ k) ∧ Hid (ApB n0 w bs 0 wr (.slice ax m q) ∧ DBk g wr)) (fun _ u _ => (intOf u).toNat)
  case atStart => exact ⟨n, 20, rfl, rfl, by omega, by omega, hn, hid (Nat.lt_of_lt_of_le hn (by decide)), H1⟩
  case round =>
  clear H1
  obtain ⟨y, k, rfl, rfl, hk1, hk2, hy, Hy, HK⟩ := hrel
  obtain ⟨j, rfl⟩ : ∃ j, k = j + 1 := ⟨k - 1, by omega⟩
  obtain ⟨⟨cv, cc⟩, cz⟩ := HK.out.2.cell (i := j) (by omega)
  have e0 : ((j + 1 : Nat) : Int) - 1 = (j : Int) := by omega
  have hd256 : 48 + y % 10 < 58 := by omega
  have ed : 48 + (y : Int) % 10 = ((48 + y % 10 : Nat) : Int) := by omega
  generalize 48 + y % 10 = d at *
  go_upto_region 5 with fail
  have HP_ := hid (HK.out.2.put j d (by omega))
  have HU_ : Hid (ApB n0 w bs 0 (wr.setCell ⟨g, j, none⟩ (.int .u8 (d : Int))) (.slice ax m q)) := hid (by
    obtain ⟨ds, _, hd⟩ := HK.out.2
    exact HK.out.1.other h0 HG.out hd (by decide) _ _)
  generalize hz_ : World.setCell _ (⟨g, j, none⟩ : Addr) _ = w2 at HP_ HU_ ⊢
  clear hz_ cc cz HK ed
  have e1 : (y : Int) / 10 = ((y / 10 : Nat) : Int) := by omega
  have Hy2 : Hid (y / 10 < 10 ^ j) := hid (by
    have := Hy.out
    rw [Nat.pow_succ] at this
    omega)
  have hy2 : y / 10 < 18446744073709551616 := by omega
  obtain ⟨z, hz⟩ : ∃ z, y / 10 = z := ⟨_, rfl⟩
  rw [hz] at e1 Hy2 hy2
  clear hz Hy
  by_cases h1 : z = 0
  rotate_left
  · as_aux_lemma =>
    have d1 : ((z : Int) == 0) = false := by simp; omega
    have hj : 1 ≤ j := by
      rcases Nat.eq_zero_or_pos j with h | h
      · subst h
        have := Hy2.out
        simp at this
        omega
      · exact h
    go_wp2
    exact ⟨⟨z, j, by first | rfl | rw [e1], by go_num, hj, by omega, hy2, Hy2, hid ⟨HU_.out, HP_.out⟩⟩, by simp [intOf]⟩
  as_aux_lemma =>
  have d1 : ((z : Int) == 0) = true := by simp [h1]
  have hsl := slice_dg g j (by omega)
  go_wp2_with (at_builtin; refine stopHere ?_)
  intro _
  obtain ⟨ds, hd1, hd2⟩ := HP_.out
  have Hd2 := hid hd2
  obtain ⟨es, he1, he2⟩ := HU_.out.row
  obtain rfl : es = [] := List.eq_nil_of_length_eq_zero (by omega)
  rw [List.append_nil] at he2
  refine wpList_app_l okB rfl _ _ he2 rfl (ds.drop j) rfl (some ⟨g, j, none⟩) (20 - j) (20 - j) rfl (by rw [List.length_drop, hd1]) (fun h => by cases h) (fun ad had i u hu => ?_) (by
    show (bs.length + (20 - j)) * 1 ≤ _
    omega) (Nat.le_trans h0 HU_.out.bel.size) ?_
  · cases had
    rw [rtB_flat, List.getElem?_map, List.getElem?_drop] at hu
    have ea : (⟨g, j, none⟩ : Addr).add i = ⟨g, j + i, none⟩ := by unfold Addr.add; split <;> simp_all
    rw [ea, hd2.cell, List.getElem?_map]
    exact hu
  intro v9 w9 hr9 hk9 _
  have HF : Hid (ApB n0 w bs 20 w9 v9) := hid ((HU_.out.kep (ds := []) (es := ds.drop j) h0 (by rw [List.append_nil]; exact he2) (by simp) hk9.out (by rw [List.append_nil]; exact hr9.out)).mono (by rw [List.length_drop]; omega))
  clear hr9 hk9 he2 hd2
  go_wp2
  go_ret
  exact ⟨_, rfl, HF⟩
end
end Go.Proofs.Qxb6500883aGreatDoor
