/- The arena in memory: frames, touch, the bare memory. -/
import Derived.Test.Qxb6500887aGreatAzR
import Derived.Test.Qxb6500887aGreatArTal2
import Derived.Test.Qxb6500887aGreatArSound
namespace Go.Proofs.Qxb6500887aGreat
open Go.RowKit
set_option linter.unusedSimpArgs false
set_option linter.unusedVariables false

/-- Only the named blocks are written; new ones may be made. -/
structure UL (gs : List Nat) (w w' : World) : Prop where
  os : w'.os = w.os
  tape : w'.tape = w.tape
  output : w'.output = w.output
  size : w.heap.size ≤ w'.heap.size
  block : ∀ k, k < w.heap.size → k ∉ gs → w'.heap[k]? = w.heap[k]?
section
variable {gs : List Nat} {x y z : World}
theorem UL.refl (gs : List Nat) (w : World) : UL gs w w := ⟨rfl, rfl, rfl, Nat.le_refl _, fun _ _ _ => rfl⟩
theorem UL.trans (h : UL gs x y) (k : UL gs y z) : UL gs x z := ⟨k.os.trans h.os, k.tape.trans h.tape, k.output.trans h.output, Nat.le_trans h.size k.size, fun i hi hn => (k.block i (Nat.lt_of_lt_of_le hi h.size) hn).trans (h.block i hi hn)⟩
theorem UL.ofBelow (h : Below x.heap.size x y) : UL gs x y := ⟨h.os, h.tape, h.output, h.size, fun k hk _ => h.block k hk⟩
theorem UL.ofUpd {g : Nat} (h : Upd g x y) (hg : g ∈ gs) : UL gs x y := ⟨h.os, h.tape, h.output, h.size, fun k hk hn => h.block k hk (fun e => hn (by rw [e]; exact hg))⟩
theorem UL.blk {g : Nat} {t : TypeId} {cs : List Value} (h : UL gs x y) (hb : Blk x g t cs) (hg : g ∉ gs) : Blk y g t cs := hb.of (h.block g hb.lt hg)
theorem UL.below {n : Nat} (h : UL gs x y) (hn : n ≤ x.heap.size) (hg : ∀ g ∈ gs, n ≤ g) : Below n x y := ⟨h.os, h.tape, h.output, h.size, fun k hk => h.block k (by omega) (fun hm => by have := hg k hm; omega)⟩
theorem UL.then (h : UL gs x y) (hb : Below y.heap.size y z) : UL gs x z := h.trans (UL.ofBelow hb)
end
/-- What an arena's steps may write. -/
def AL.wr (l : AL) : List Nat := [l.a, l.w, l.bc, l.bm, l.bl, l.bt]
def AS.tch (S : AS) : AS := { S with v := (S.v + 1) % 18446744073709551616 }
section
variable {l : AL} {S : AS} {w w' : World}
theorem AM.below (h : AM l S w) (hb : Below w.heap.size w w') : AM l S w' := ⟨h.a.below hb, h.ws.below hb, h.wl, h.tc.below hb, h.tm.below hb, h.tl.below hb, h.tt.below hb, h.nd, h.vl⟩
theorem AM.drew (h : AM l S w) (hb : Drew w w') : AM l S w' := h.below (hb.below _)
theorem AM.cells (h : AM l S w) : w.cell? ⟨l.a, 0, none⟩ = some (.slice (some ⟨l.w, 0, none⟩) 32768 32768) ∧ w.cell? ⟨l.a, 1, none⟩ = some (.pointer (some ⟨l.tc, 0, none⟩)) ∧ w.cell? ⟨l.a, 2, none⟩ = some (.pointer (some ⟨l.tm, 0, none⟩)) ∧ w.cell? ⟨l.a, 3, none⟩ = some (.pointer (some ⟨l.tl, 0, none⟩)) ∧ w.cell? ⟨l.a, 4, none⟩ = some (.pointer (some ⟨l.tt, 0, none⟩)) ∧ w.cell? ⟨l.a, 5, none⟩ = some (.int .u64 (S.v : Int)) :=
  ⟨h.a.cell 0, h.a.cell 1, h.a.cell 2, h.a.cell 3, h.a.cell 4, h.a.cell 5⟩
theorem AM.word (h : AM l S w) {i : Nat} (hi : i < 32768) : w.cell? ⟨l.w, i, none⟩ = some (.int .u64 ((S.W i : Nat) : Int)) := by
  rw [h.ws.cell i]
  exact fnC_get _ hi
theorem AM.ne (h : AM l S w) : l.w ≠ l.a ∧ l.bc ≠ l.a ∧ l.bm ≠ l.a ∧ l.bl ≠ l.a ∧ l.bt ≠ l.a ∧ l.tc ≠ l.a ∧ l.tm ≠ l.a ∧ l.tl ≠ l.a ∧ l.tt ≠ l.a :=
  ⟨h.ws.tneA h.a (by decide), h.tc.wb.tneA h.a (by decide), h.tm.wb.tneA h.a (by decide), h.tl.wb.tneA h.a (by decide), h.tt.wb.tneA h.a (by decide), h.tc.tb.tneA h.a (by decide), h.tm.tb.tneA h.a (by decide), h.tl.tb.tneA h.a (by decide), h.tt.tb.tneA h.a (by decide)⟩
theorem AM.nds (h : AM l S w) : l.w ≠ l.bc ∧ l.w ≠ l.bm ∧ l.w ≠ l.bl ∧ l.w ≠ l.bt ∧ l.bc ≠ l.bm ∧ l.bc ≠ l.bl ∧ l.bc ≠ l.bt ∧ l.bm ≠ l.bl ∧ l.bm ≠ l.bt ∧ l.bl ≠ l.bt := by
  have := h.nd
  simp only [AL.ds, List.nodup_cons, List.mem_cons, List.not_mem_nil, or_false, not_or, not_false_eq_true, List.nodup_nil, and_true] at this
  omega
theorem AM.ver (h : AM l S w) (v : Nat) (hv : v < 18446744073709551616) : AM l { S with v := v } (w.setCell ⟨l.a, 5, none⟩ (.int .u64 (v : Int))) ∧ Upd l.a w (w.setCell ⟨l.a, 5, none⟩ (.int .u64 (v : Int))) := by
  have hu : Upd l.a w (w.setCell ⟨l.a, 5, none⟩ (.int .u64 (v : Int))) := (Upd.refl l.a w).setCell rfl _
  obtain ⟨e1, e2, e3, e4, e5, e6, e7, e8, e9⟩ := h.ne
  refine ⟨⟨?_, h.ws.upd hu e1, h.wl, h.tc.upd hu e6 e2, h.tm.upd hu e7 e3, h.tl.upd hu e8 e4, h.tt.upd hu e9 e5, h.nd, hv⟩, hu⟩
  exact h.a.set 5 (.int .u64 (v : Int))
theorem AM.putW (h : AM l S w) {i x : Nat} (hi : i < 32768) (hx : x < 18446744073709551616) : AM l { S with W := fup S.W i x } (w.setCell ⟨l.w, i, none⟩ (.int .u64 (x : Int))) ∧ Upd l.w w (w.setCell ⟨l.w, i, none⟩ (.int .u64 (x : Int))) := by
  have hu : Upd l.w w (w.setCell ⟨l.w, i, none⟩ (.int .u64 (x : Int))) := (Upd.refl l.w w).setCell rfl _
  obtain ⟨e1, e2, e3, e4, e5, e6, e7, e8, e9⟩ := h.ne
  obtain ⟨n1, n2, n3, n4, _⟩ := h.nds
  have t1 : l.tc ≠ l.w := h.tc.tb.tneA h.ws (by decide)
  have t2 : l.tm ≠ l.w := h.tm.tb.tneA h.ws (by decide)
  have t3 : l.tl ≠ l.w := h.tl.tb.tneA h.ws (by decide)
  have t4 : l.tt ≠ l.w := h.tt.tb.tneA h.ws (by decide)
  refine ⟨⟨h.a.upd hu (Ne.symm e1), ?_, fun j => ?_, h.tc.upd hu t1 (Ne.symm n1), h.tm.upd hu t2 (Ne.symm n2), h.tl.upd hu t3 (Ne.symm n3), h.tt.upd hu t4 (Ne.symm n4), h.nd, h.vl⟩, hu⟩
  · have := h.ws.set i (.int .u64 (x : Int))
    unfold wdC at this ⊢
    rw [fnC_set _ hi, fup_map (fun y : Nat => Value.int .u64 (y : Int)) S.W i x] at this
    exact this
  · by_cases e : j = i
    · rw [e]; show fup S.W i x i < _; rw [fup_self]; exact hx
    · show fup S.W i x j < _; rw [fup_ne _ _ e]; exact h.wl j
theorem AM.setC (h : AM l S w) {X : Nat → Nat} (hT : TB l.tc l.bc 16384 2 32 512 X w') (hu : Upd l.bc w w') : AM l { S with C := X } w' := by
  obtain ⟨e1, e2, e3, e4, e5, e6, e7, e8, e9⟩ := h.ne
  obtain ⟨n1, n2, n3, n4, n5, n6, n7, n8, n9, n0⟩ := h.nds
  exact ⟨h.a.upd hu (Ne.symm e2), h.ws.upd hu n1, h.wl, hT, h.tm.upd hu (h.tm.tb.tneA h.tc.wb (by decide)) (Ne.symm n5), h.tl.upd hu (h.tl.tb.tneA h.tc.wb (by decide)) (Ne.symm n6), h.tt.upd hu (h.tt.tb.tneA h.tc.wb (by decide)) (Ne.symm n7), h.nd, h.vl⟩
theorem AM.setM (h : AM l S w) {X : Nat → Nat} (hT : TB l.tm l.bm 16384 1 64 256 X w') (hu : Upd l.bm w w') : AM l { S with M := X } w' := by
  obtain ⟨e1, e2, e3, e4, e5, e6, e7, e8, e9⟩ := h.ne
  obtain ⟨n1, n2, n3, n4, n5, n6, n7, n8, n9, n0⟩ := h.nds
  exact ⟨h.a.upd hu (Ne.symm e3), h.ws.upd hu n2, h.wl, h.tc.upd hu (h.tc.tb.tneA h.tm.wb (by decide)) n5, hT, h.tl.upd hu (h.tl.tb.tneA h.tm.wb (by decide)) (Ne.symm n8), h.tt.upd hu (h.tt.tb.tneA h.tm.wb (by decide)) (Ne.symm n9), h.nd, h.vl⟩
theorem AM.setL (h : AM l S w) {X : Nat → Nat} (hT : TB l.tl l.bl 32768 1 64 512 X w') (hu : Upd l.bl w w') : AM l { S with L := X } w' := by
  obtain ⟨e1, e2, e3, e4, e5, e6, e7, e8, e9⟩ := h.ne
  obtain ⟨n1, n2, n3, n4, n5, n6, n7, n8, n9, n0⟩ := h.nds
  exact ⟨h.a.upd hu (Ne.symm e4), h.ws.upd hu n3, h.wl, h.tc.upd hu (h.tc.tb.tneA h.tl.wb (by decide)) n6, h.tm.upd hu (h.tm.tb.tneA h.tl.wb (by decide)) n8, hT, h.tt.upd hu (h.tt.tb.tneA h.tl.wb (by decide)) (Ne.symm n0), h.nd, h.vl⟩
theorem AM.setT (h : AM l S w) {X : Nat → Nat} (hT : TB l.tt l.bt 2048 4 16 128 X w') (hu : Upd l.bt w w') : AM l { S with T := X } w' := by
  obtain ⟨e1, e2, e3, e4, e5, e6, e7, e8, e9⟩ := h.ne
  obtain ⟨n1, n2, n3, n4, n5, n6, n7, n8, n9, n0⟩ := h.nds
  exact ⟨h.a.upd hu (Ne.symm e5), h.ws.upd hu n4, h.wl, h.tc.upd hu (h.tc.tb.tneA h.tt.wb (by decide)) n7, h.tm.upd hu (h.tm.tb.tneA h.tt.wb (by decide)) n9, h.tl.upd hu (h.tl.tb.tneA h.tt.wb (by decide)) n0, hT, h.nd, h.vl⟩
end
theorem AL.wr_a (l : AL) : l.a ∈ l.wr := by simp [AL.wr]
theorem AL.wr_w (l : AL) : l.w ∈ l.wr := by simp [AL.wr]
theorem AL.wr_c (l : AL) : l.bc ∈ l.wr := by simp [AL.wr]
theorem AL.wr_m (l : AL) : l.bm ∈ l.wr := by simp [AL.wr]
theorem AL.wr_l (l : AL) : l.bl ∈ l.wr := by simp [AL.wr]
theorem AL.wr_t (l : AL) : l.bt ∈ l.wr := by simp [AL.wr]
/-- An arena after a step. -/
structure AU (l : AL) (w0 : World) (S : AS) (w : World) : Prop where
  m : AM l S w
  u : UL l.wr w0 w
section
variable {l : AL} {S : AS} {w w' w0 : World}
theorem AU.start (h : AM l S w) : AU l w S w := ⟨h, UL.refl _ _⟩
theorem AU.below (h : AU l w0 S w) (hb : Below w.heap.size w w') : AU l w0 S w' := ⟨h.m.below hb, h.u.then hb⟩
theorem AU.putW (h : AU l w0 S w) {i x : Nat} (hi : i < 32768) (hx : x < 18446744073709551616) : AU l w0 { S with W := fup S.W i x } (w.setCell ⟨l.w, i, none⟩ (.int .u64 (x : Int))) := ⟨(h.m.putW hi hx).1, h.u.trans (UL.ofUpd (h.m.putW hi hx).2 l.wr_w)⟩
theorem AU.setC (h : AU l w0 S w) {X : Nat → Nat} (hT : TB l.tc l.bc 16384 2 32 512 X w') (hu : Upd l.bc w w') : AU l w0 { S with C := X } w' := ⟨h.m.setC hT hu, h.u.trans (UL.ofUpd hu l.wr_c)⟩
theorem AU.setM (h : AU l w0 S w) {X : Nat → Nat} (hT : TB l.tm l.bm 16384 1 64 256 X w') (hu : Upd l.bm w w') : AU l w0 { S with M := X } w' := ⟨h.m.setM hT hu, h.u.trans (UL.ofUpd hu l.wr_m)⟩
theorem AU.setL (h : AU l w0 S w) {X : Nat → Nat} (hT : TB l.tl l.bl 32768 1 64 512 X w') (hu : Upd l.bl w w') : AU l w0 { S with L := X } w' := ⟨h.m.setL hT hu, h.u.trans (UL.ofUpd hu l.wr_l)⟩
theorem AU.setT (h : AU l w0 S w) {X : Nat → Nat} (hT : TB l.tt l.bt 2048 4 16 128 X w') (hu : Upd l.bt w w') : AU l w0 { S with T := X } w' := ⟨h.m.setT hT hu, h.u.trans (UL.ofUpd hu l.wr_t)⟩
theorem AU.trans {S' : AS} (h : AU l w0 S w) (k : AU l w S' w') : AU l w0 S' w' := ⟨k.m, h.u.trans k.u⟩
set_option maxRecDepth 100000 in
theorem touchZ (h : AM l S w) : Calls Tryz.prog 137 #[.pointer (some ⟨l.a, 0, none⟩)] w fun e w' => e = .returned (.tuple #[]) ∧ Hid (AU l w S.tch w') := by
  have c5 := h.cells.2.2.2.2.2
  have fz := h.a.frozen 5
  have hv := h.vl
  have HE : Hid (IntKind.u64.wrap ((S.v : Int) + 1) = (((S.v + 1) % 18446744073709551616 : Nat) : Int)) := hid (by rw [IntKind.wrap_u64]; omega)
  have HF := hid (h.ver ((S.v + 1) % 18446744073709551616) (Nat.mod_lt _ (by decide)))
  clear h hv
  go_enter Tryz.func137, Tryz.ntmps137
  go_wp2
  rw [HE.out]
  exact bodyPost_end (v := .tuple #[]) (by simp [results, Tryz.results137, go_sem]) rfl ⟨rfl, hid ⟨HF.out.1, UL.ofUpd HF.out.2 l.wr_a⟩⟩
theorem AU.touch (h : AU l w0 S w) : Calls Tryz.prog 137 #[.pointer (some ⟨l.a, 0, none⟩)] w fun e w' => e = .returned (.tuple #[]) ∧ Hid (AU l w0 S.tch w') :=
  (touchZ h.m).mono (by rintro e w1 ⟨rfl, k⟩; exact ⟨rfl, hid (h.trans k.out)⟩)
end
end Go.Proofs.Qxb6500887aGreat
