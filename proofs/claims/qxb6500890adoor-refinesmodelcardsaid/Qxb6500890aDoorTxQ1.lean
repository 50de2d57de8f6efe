/- The model's step: kinds 0 to 11. Written by tools/mk_txq.py. -/
import Derived.Test.Qxb6500890aDoorTxP5
namespace Go.Proofs.Qxb6500890aDoor
open Go.RowKit
set_option linter.unusedSimpArgs false
set_option linter.unusedVariables false

/-- The model's step under way. -/
structure Ms (w : World) (mB p : Nat) (o : TOp) (S : TS) (wr : World) : Prop where
  mb : Blk wr mB 31 (stC S)
  ob : Blk wr p 36 (opCells o)
  ou : Blk wr (p + 1) 39 (ouC 0 false 0 0 ByteArray.empty nilV nilV)
  up : Upd mB w wr
  lo : w.heap.size = p
  lt : mB < w.heap.size
section
variable {w wr w' : World} {mB p : Nat} {S S' : TS} {o : TOp}
theorem Ms.below (h : Ms w mB p o S wr) (hb : Below wr.heap.size wr w') : Ms w mB p o S w' := ⟨h.mb.below hb, h.ob.below hb, h.ou.below hb, h.up.ofBelow hb, h.lo, h.lt⟩
theorem Upd.chain {g : Nat} {a b c : World} (h : Upd g a b) (k : Upd g b c) : Upd g a c := ⟨k.os.trans h.os, k.tape.trans h.tape, k.output.trans h.output, Nat.le_trans h.size k.size, fun i hi hne => (k.block i (Nat.lt_of_lt_of_le hi h.size) hne).trans (h.block i hi hne)⟩
theorem Ms.next (h : Ms w mB p o S wr) (hb : Blk w' mB 31 (stC S')) (hu : Upd mB wr w') : Ms w mB p o S' w' := ⟨hb, h.ob.of (hu.block _ h.ob.lt (by have := h.lt; have := h.lo; omega)), h.ou.of (hu.block _ h.ou.lt (by have := h.lt; have := h.lo; omega)), h.up.chain hu, h.lo, h.lt⟩
theorem Ms.set {i : Nat} {v : Value} (h : Ms w mB p o S wr) (e : (stC S).set i v = stC S') : Ms w mB p o S' (wr.setCell ⟨mB, i, none⟩ v) := h.next (by rw [← e]; exact h.mb.set i v) ((Upd.refl mB wr).setCell rfl v)
theorem Ms.fin {O : OutP} (h : Ms w mB p o S wr) (h0 : O.list = []) (h1 : O.recs = []) (hu : Upd (p + 1) wr w') : MsP w mB O S (.returned (ouV O nilV nilV)) w' := ⟨nilV, nilV, rfl, by rw [h0]; exact OwR.nil _ _ _, by rw [h1]; exact OwR.nil _ _ _, h.mb.of (hu.block _ h.mb.lt (by have := h.lt; have := h.lo; omega)), h.up.after hu (by have := h.lo; omega)⟩
theorem Ms.finL {O : OutP} {lv : Value} (h : Ms w mB p o S wr) (hl : OwR rtS (p + 2) wr lv O.list) (h1 : O.recs = []) (hu : Upd (p + 1) wr w') : MsP w mB O S (.returned (ouV O lv nilV)) w' := ⟨lv, nilV, rfl, (hl.upd hu (fun k hk => by have := hl.hi k hk; omega)).mono (by have := h.lo; omega), by rw [h1]; exact OwR.nil _ _ _, h.mb.of (hu.block _ h.mb.lt (by have := h.lt; have := h.lo; omega)), h.up.after hu (by have := h.lo; omega)⟩
theorem Ms.finK {O : OutP} {rv : Value} (h : Ms w mB p o S wr) (h1 : O.list = []) (hl : OwR rtK (p + 2) wr rv O.recs) (hu : Upd (p + 1) wr w') : MsP w mB O S (.returned (ouV O nilV rv)) w' := ⟨nilV, rv, rfl, by rw [h1]; exact OwR.nil _ _ _, (hl.upd hu (fun k hk => by have := hl.hi k hk; omega)).mono (by have := h.lo; omega), h.mb.of (hu.block _ h.mb.lt (by have := h.lt; have := h.lo; omega)), h.up.after hu (by have := h.lo; omega)⟩
theorem Ms.new (h : Blk w mB 31 (stC S)) (o : TOp) : Ms w mB w.heap.size o S ((w.alloc (.cells (opCells o).toArray 36)).alloc (.cells #[.int .i64 0, .bool false, .int .i64 0, .int .i64 0, .string ⟨#[]⟩, .slice none 0 0, .slice none 0 0] 39)) := by
  obtain ⟨h1, h2, h3⟩ := Rs.new0 w (opCells o) (ouC 0 false 0 0 ByteArray.empty nilV nilV) 36 39
  exact ⟨h.below h3, h1, h2, (Upd.refl mB w).ofBelow h3, rfl, h.lt⟩
set_option maxRecDepth 100000
set_option maxHeartbeats 2000000
theorem mstep0_walk (h : Blk w mB 31 (stC S)) (o : TOp) (hok : OpOk w o) (hk : o.kind = 0) : Calls Tryd.prog 10 #[.pointer (some ⟨mB, 0, none⟩), .agg (opCells o).toArray] w fun e w' => MsP w mB ({ oz with s := bsA (fmtL o.a) }) (S) e w' := by
  have HR0 := hid (Ms.new h o)
  have HB0 := hid (Rs.newB w o)
  have I0 := hid info_ou
  have HOk := hid hok
  obtain ⟨p, hp⟩ : ∃ p, w.heap.size = p := ⟨_, rfl⟩
  rw [hp] at HR0
  obtain ⟨kind, oa, ob, oc, s, t, la, ln, lc, list, ra, rn, rc, recs⟩ := o
  have e0 : (opCells ⟨kind, oa, ob, oc, s, t, la, ln, lc, list, ra, rn, rc, recs⟩).toArray = #[.int .i64 kind, .int .i64 oa, .int .i64 ob, .int .i64 oc, .string s, .string t, .slice la ln lc, .slice ra rn rc] := rfl
  have HCl : Hid (∀ {S'} {wx : World}, Ms w mB p ⟨kind, oa, ob, oc, s, t, la, ln, lc, list, ra, rn, rc, recs⟩ S' wx → wx.cell? ⟨p, 0, none⟩ = some (.int .i64 kind) ∧ wx.cell? ⟨p, 1, none⟩ = some (.int .i64 oa) ∧ wx.cell? ⟨p, 2, none⟩ = some (.int .i64 ob) ∧ wx.cell? ⟨p, 3, none⟩ = some (.int .i64 oc) ∧ wx.cell? ⟨p, 4, none⟩ = some (.string s) ∧ wx.cell? ⟨p, 5, none⟩ = some (.string t) ∧ wx.cell? ⟨p, 6, none⟩ = some (.slice la ln lc) ∧ wx.cell? ⟨p, 7, none⟩ = some (.slice ra rn rc)) := hid (fun h => ⟨h.ob.cell 0, h.ob.cell 1, h.ob.cell 2, h.ob.cell 3, h.ob.cell 4, h.ob.cell 5, h.ob.cell 6, h.ob.cell 7⟩)
  rw [e0] at HR0 HB0
  rw [show (opCells _).toArray = _ from e0]
  dsimp only at hk hok ⊢
  have k0 : (kind == 0) = true := by rw [hk]; rfl
  clear hok e0 h
  clear hk
  go_enter Tryd.func10, Tryd.ntmps10
  go_upto_region 1 with fail
  generalize hwr : ((w.alloc (Obj.cells #[.int .i64 kind, .int .i64 oa, .int .i64 ob, .int .i64 oc, .string s, .string t, .slice la ln lc, .slice ra rn rc] 36)).alloc (Obj.cells #[.int .i64 0, .bool false, .int .i64 0, .int .i64 0, .string ⟨#[]⟩, .slice none 0 0, .slice none 0 0] 39)) = wr at HR0 HB0 ⊢
  clear hwr hp
  obtain ⟨x0, x1, x2, x3, x4, x5, x6, x7⟩ := HCl.out HR0.out
  have HF := hid (mformat_walk oa HOk.out.fa)
  rw [show (⟨(fmtL oa).toArray⟩ : ByteArray) = bsA (fmtL oa) from rfl] at HF
  go_wp2_with fail
  refine (HF.out _).mono ?_
  rintro e1 w1 ⟨rfl, hb1⟩
  have HR1 := hid (HR0.out.below hb1)
  clear HF HR0 hb1 x0 x1 x2 x3 x4 x5 x6 x7
  go_wp2_with (refine wpList_store_blk rfl 39 _ _ rfl (p + 1) rfl (ouC 0 false 0 0 (bsA (fmtL oa)) nilV nilV) rfl HR1.out.ou rfl I0.out (ou_one _ _ _ _ _ _ _ _ _ _ _) ?_; intro w9 HB9 HU9)
  exact bodyPost_ret (results_blk (cs := ouC 0 false 0 0 (bsA (fmtL oa)) nilV nilV) Tryd.results10 rfl aggOu HB9.out) rfl (HR1.out.fin rfl rfl HU9.out)
theorem mstep1_walk (h : Blk w mB 31 (stC S)) (o : TOp) (hok : OpOk w o) (hk : o.kind = 1) : Calls Tryd.prog 10 #[.pointer (some ⟨mB, 0, none⟩), .agg (opCells o).toArray] w fun e w' => MsP w mB ({ oz with c := (parseOut o.s.data.toList).2, i := (parseOut o.s.data.toList).1 }) (S) e w' := by
  have HR0 := hid (Ms.new h o)
  have HB0 := hid (Rs.newB w o)
  have I0 := hid info_ou
  have HOk := hid hok
  obtain ⟨p, hp⟩ : ∃ p, w.heap.size = p := ⟨_, rfl⟩
  rw [hp] at HR0
  obtain ⟨kind, oa, ob, oc, s, t, la, ln, lc, list, ra, rn, rc, recs⟩ := o
  have e0 : (opCells ⟨kind, oa, ob, oc, s, t, la, ln, lc, list, ra, rn, rc, recs⟩).toArray = #[.int .i64 kind, .int .i64 oa, .int .i64 ob, .int .i64 oc, .string s, .string t, .slice la ln lc, .slice ra rn rc] := rfl
  have HCl : Hid (∀ {S'} {wx : World}, Ms w mB p ⟨kind, oa, ob, oc, s, t, la, ln, lc, list, ra, rn, rc, recs⟩ S' wx → wx.cell? ⟨p, 0, none⟩ = some (.int .i64 kind) ∧ wx.cell? ⟨p, 1, none⟩ = some (.int .i64 oa) ∧ wx.cell? ⟨p, 2, none⟩ = some (.int .i64 ob) ∧ wx.cell? ⟨p, 3, none⟩ = some (.int .i64 oc) ∧ wx.cell? ⟨p, 4, none⟩ = some (.string s) ∧ wx.cell? ⟨p, 5, none⟩ = some (.string t) ∧ wx.cell? ⟨p, 6, none⟩ = some (.slice la ln lc) ∧ wx.cell? ⟨p, 7, none⟩ = some (.slice ra rn rc)) := hid (fun h => ⟨h.ob.cell 0, h.ob.cell 1, h.ob.cell 2, h.ob.cell 3, h.ob.cell 4, h.ob.cell 5, h.ob.cell 6, h.ob.cell 7⟩)
  rw [e0] at HR0 HB0
  rw [show (opCells _).toArray = _ from e0]
  dsimp only at hk hok ⊢
  have k0 : (kind == 0) = false := by rw [hk]; rfl
  have k1 : (kind == 1) = true := by rw [hk]; rfl
  clear hok e0 h
  clear hk
  go_enter Tryd.func10, Tryd.ntmps10
  go_upto_region 1 with fail
  generalize hwr : ((w.alloc (Obj.cells #[.int .i64 kind, .int .i64 oa, .int .i64 ob, .int .i64 oc, .string s, .string t, .slice la ln lc, .slice ra rn rc] 36)).alloc (Obj.cells #[.int .i64 0, .bool false, .int .i64 0, .int .i64 0, .string ⟨#[]⟩, .slice none 0 0, .slice none 0 0] 39)) = wr at HR0 HB0 ⊢
  clear hwr hp
  obtain ⟨x0, x1, x2, x3, x4, x5, x6, x7⟩ := HCl.out HR0.out
  have HF := hid (mparse_walk s HOk.out.fs)
  obtain ⟨pp, hpp⟩ : ∃ x, parseOut s.data.toList = x := ⟨_, rfl⟩
  rw [hpp] at HF
  obtain ⟨pv, pc⟩ := pp
  have Hpp := hid hpp
  dsimp only at HF
  clear hpp
  go_wp2_with fail
  refine (HF.out _).mono ?_
  rintro e1 w1 ⟨rfl, hb1⟩
  have HR1 := hid (HR0.out.below hb1)
  clear HF HR0 hb1 x0 x1 x2 x3 x4 x5 x6 x7
  go_wp2_with (refine wpList_store_blk rfl 39 _ _ rfl (p + 1) rfl (ouC pc false pv 0 ByteArray.empty nilV nilV) rfl HR1.out.ou rfl I0.out (ou_one _ _ _ _ _ _ _ _ _ _ _) ?_; intro w9 HB9 HU9)
  have HFin := HR1.out.fin (O := { oz with c := (parseOut s.data.toList).2, i := (parseOut s.data.toList).1 }) rfl rfl HU9.out
  rw [Hpp.out] at HFin
  exact bodyPost_ret (results_blk (cs := ouC pc false pv 0 ByteArray.empty nilV nilV) Tryd.results10 rfl aggOu HB9.out) rfl (by rw [Hpp.out]; exact HFin)
theorem mstep2_walk (h : Blk w mB 31 (stC S)) (o : TOp) (hok : OpOk w o) (hk : o.kind = 2) : Calls Tryd.prog 10 #[.pointer (some ⟨mB, 0, none⟩), .agg (opCells o).toArray] w fun e w' => MsP w mB ({ oz with c := (arithP o.kind o.a o.b).2, i := (arithP o.kind o.a o.b).1 }) (S) e w' := by
  have HR0 := hid (Ms.new h o)
  have HB0 := hid (Rs.newB w o)
  have I0 := hid info_ou
  have HOk := hid hok
  obtain ⟨p, hp⟩ : ∃ p, w.heap.size = p := ⟨_, rfl⟩
  rw [hp] at HR0
  obtain ⟨kind, oa, ob, oc, s, t, la, ln, lc, list, ra, rn, rc, recs⟩ := o
  have e0 : (opCells ⟨kind, oa, ob, oc, s, t, la, ln, lc, list, ra, rn, rc, recs⟩).toArray = #[.int .i64 kind, .int .i64 oa, .int .i64 ob, .int .i64 oc, .string s, .string t, .slice la ln lc, .slice ra rn rc] := rfl
  have HCl : Hid (∀ {S'} {wx : World}, Ms w mB p ⟨kind, oa, ob, oc, s, t, la, ln, lc, list, ra, rn, rc, recs⟩ S' wx → wx.cell? ⟨p, 0, none⟩ = some (.int .i64 kind) ∧ wx.cell? ⟨p, 1, none⟩ = some (.int .i64 oa) ∧ wx.cell? ⟨p, 2, none⟩ = some (.int .i64 ob) ∧ wx.cell? ⟨p, 3, none⟩ = some (.int .i64 oc) ∧ wx.cell? ⟨p, 4, none⟩ = some (.string s) ∧ wx.cell? ⟨p, 5, none⟩ = some (.string t) ∧ wx.cell? ⟨p, 6, none⟩ = some (.slice la ln lc) ∧ wx.cell? ⟨p, 7, none⟩ = some (.slice ra rn rc)) := hid (fun h => ⟨h.ob.cell 0, h.ob.cell 1, h.ob.cell 2, h.ob.cell 3, h.ob.cell 4, h.ob.cell 5, h.ob.cell 6, h.ob.cell 7⟩)
  rw [e0] at HR0 HB0
  rw [show (opCells _).toArray = _ from e0]
  dsimp only at hk hok ⊢
  have k0 : (kind == 0) = false := by rw [hk]; rfl
  have k1 : (kind == 1) = false := by rw [hk]; rfl
  have k2 : (kind == 2) = true := by rw [hk]; rfl
  clear hok e0 h
  have HFa0 := hid (arith_both kind oa ob HOk.out.fa HOk.out.fb (by omega)).2
  clear hk
  go_enter Tryd.func10, Tryd.ntmps10
  go_upto_region 1 with fail
  generalize hwr : ((w.alloc (Obj.cells #[.int .i64 kind, .int .i64 oa, .int .i64 ob, .int .i64 oc, .string s, .string t, .slice la ln lc, .slice ra rn rc] 36)).alloc (Obj.cells #[.int .i64 0, .bool false, .int .i64 0, .int .i64 0, .string ⟨#[]⟩, .slice none 0 0, .slice none 0 0] 39)) = wr at HR0 HB0 ⊢
  clear hwr hp
  obtain ⟨x0, x1, x2, x3, x4, x5, x6, x7⟩ := HCl.out HR0.out
  have HF := hid HFa0
  obtain ⟨pp, hpp⟩ : ∃ x, arithP kind oa ob = x := ⟨_, rfl⟩
  rw [hpp] at HF
  obtain ⟨pv, pc⟩ := pp
  have Hpp := hid hpp
  dsimp only at HF
  clear hpp HFa0
  go_wp2_with fail
  refine (HF.out _).mono ?_
  rintro e1 w1 ⟨rfl, hb1⟩
  have HR1 := hid (HR0.out.below hb1)
  clear HF HR0 hb1 x0 x1 x2 x3 x4 x5 x6 x7
  go_wp2_with (refine wpList_store_blk rfl 39 _ _ rfl (p + 1) rfl (ouC pc false pv 0 ByteArray.empty nilV nilV) rfl HR1.out.ou rfl I0.out (ou_one _ _ _ _ _ _ _ _ _ _ _) ?_; intro w9 HB9 HU9)
  have HFin := HR1.out.fin (O := { oz with c := (arithP kind oa ob).2, i := (arithP kind oa ob).1 }) rfl rfl HU9.out
  rw [Hpp.out] at HFin
  exact bodyPost_ret (results_blk (cs := ouC pc false pv 0 ByteArray.empty nilV nilV) Tryd.results10 rfl aggOu HB9.out) rfl (by rw [Hpp.out]; exact HFin)
theorem mstep3_walk (h : Blk w mB 31 (stC S)) (o : TOp) (hok : OpOk w o) (hk : o.kind = 3) : Calls Tryd.prog 10 #[.pointer (some ⟨mB, 0, none⟩), .agg (opCells o).toArray] w fun e w' => MsP w mB ({ oz with c := (arithP o.kind o.a o.b).2, i := (arithP o.kind o.a o.b).1 }) (S) e w' := by
  have HR0 := hid (Ms.new h o)
  have HB0 := hid (Rs.newB w o)
  have I0 := hid info_ou
  have HOk := hid hok
  obtain ⟨p, hp⟩ : ∃ p, w.heap.size = p := ⟨_, rfl⟩
  rw [hp] at HR0
  obtain ⟨kind, oa, ob, oc, s, t, la, ln, lc, list, ra, rn, rc, recs⟩ := o
  have e0 : (opCells ⟨kind, oa, ob, oc, s, t, la, ln, lc, list, ra, rn, rc, recs⟩).toArray = #[.int .i64 kind, .int .i64 oa, .int .i64 ob, .int .i64 oc, .string s, .string t, .slice la ln lc, .slice ra rn rc] := rfl
  have HCl : Hid (∀ {S'} {wx : World}, Ms w mB p ⟨kind, oa, ob, oc, s, t, la, ln, lc, list, ra, rn, rc, recs⟩ S' wx → wx.cell? ⟨p, 0, none⟩ = some (.int .i64 kind) ∧ wx.cell? ⟨p, 1, none⟩ = some (.int .i64 oa) ∧ wx.cell? ⟨p, 2, none⟩ = some (.int .i64 ob) ∧ wx.cell? ⟨p, 3, none⟩ = some (.int .i64 oc) ∧ wx.cell? ⟨p, 4, none⟩ = some (.string s) ∧ wx.cell? ⟨p, 5, none⟩ = some (.string t) ∧ wx.cell? ⟨p, 6, none⟩ = some (.slice la ln lc) ∧ wx.cell? ⟨p, 7, none⟩ = some (.slice ra rn rc)) := hid (fun h => ⟨h.ob.cell 0, h.ob.cell 1, h.ob.cell 2, h.ob.cell 3, h.ob.cell 4, h.ob.cell 5, h.ob.cell 6, h.ob.cell 7⟩)
  rw [e0] at HR0 HB0
  rw [show (opCells _).toArray = _ from e0]
  dsimp only at hk hok ⊢
  have k0 : (kind == 0) = false := by rw [hk]; rfl
  have k1 : (kind == 1) = false := by rw [hk]; rfl
  have k2 : (kind == 2) = false := by rw [hk]; rfl
  have k3 : (kind == 3) = true := by rw [hk]; rfl
  clear hok e0 h
  have HFa0 := hid (arith_both kind oa ob HOk.out.fa HOk.out.fb (by omega)).2
  clear hk
  go_enter Tryd.func10, Tryd.ntmps10
  go_upto_region 1 with fail
  generalize hwr : ((w.alloc (Obj.cells #[.int .i64 kind, .int .i64 oa, .int .i64 ob, .int .i64 oc, .string s, .string t, .slice la ln lc, .slice ra rn rc] 36)).alloc (Obj.cells #[.int .i64 0, .bool false, .int .i64 0, .int .i64 0, .string ⟨#[]⟩, .slice none 0 0, .slice none 0 0] 39)) = wr at HR0 HB0 ⊢
  clear hwr hp
  obtain ⟨x0, x1, x2, x3, x4, x5, x6, x7⟩ := HCl.out HR0.out
  have HF := hid HFa0
  obtain ⟨pp, hpp⟩ : ∃ x, arithP kind oa ob = x := ⟨_, rfl⟩
  rw [hpp] at HF
  obtain ⟨pv, pc⟩ := pp
  have Hpp := hid hpp
  dsimp only at HF
  clear hpp HFa0
  go_wp2_with fail
  refine (HF.out _).mono ?_
  rintro e1 w1 ⟨rfl, hb1⟩
  have HR1 := hid (HR0.out.below hb1)
  clear HF HR0 hb1 x0 x1 x2 x3 x4 x5 x6 x7
  go_wp2_with (refine wpList_store_blk rfl 39 _ _ rfl (p + 1) rfl (ouC pc false pv 0 ByteArray.empty nilV nilV) rfl HR1.out.ou rfl I0.out (ou_one _ _ _ _ _ _ _ _ _ _ _) ?_; intro w9 HB9 HU9)
  have HFin := HR1.out.fin (O := { oz with c := (arithP kind oa ob).2, i := (arithP kind oa ob).1 }) rfl rfl HU9.out
  rw [Hpp.out] at HFin
  exact bodyPost_ret (results_blk (cs := ouC pc false pv 0 ByteArray.empty nilV nilV) Tryd.results10 rfl aggOu HB9.out) rfl (by rw [Hpp.out]; exact HFin)
theorem mstep4_walk (h : Blk w mB 31 (stC S)) (o : TOp) (hok : OpOk w o) (hk : o.kind = 4) : Calls Tryd.prog 10 #[.pointer (some ⟨mB, 0, none⟩), .agg (opCells o).toArray] w fun e w' => MsP w mB ({ oz with c := (arithP o.kind o.a o.b).2, i := (arithP o.kind o.a o.b).1 }) (S) e w' := by
  have HR0 := hid (Ms.new h o)
  have HB0 := hid (Rs.newB w o)
  have I0 := hid info_ou
  have HOk := hid hok
  obtain ⟨p, hp⟩ : ∃ p, w.heap.size = p := ⟨_, rfl⟩
  rw [hp] at HR0
  obtain ⟨kind, oa, ob, oc, s, t, la, ln, lc, list, ra, rn, rc, recs⟩ := o
  have e0 : (opCells ⟨kind, oa, ob, oc, s, t, la, ln, lc, list, ra, rn, rc, recs⟩).toArray = #[.int .i64 kind, .int .i64 oa, .int .i64 ob, .int .i64 oc, .string s, .string t, .slice la ln lc, .slice ra rn rc] := rfl
  have HCl : Hid (∀ {S'} {wx : World}, Ms w mB p ⟨kind, oa, ob, oc, s, t, la, ln, lc, list, ra, rn, rc, recs⟩ S' wx → wx.cell? ⟨p, 0, none⟩ = some (.int .i64 kind) ∧ wx.cell? ⟨p, 1, none⟩ = some (.int .i64 oa) ∧ wx.cell? ⟨p, 2, none⟩ = some (.int .i64 ob) ∧ wx.cell? ⟨p, 3, none⟩ = some (.int .i64 oc) ∧ wx.cell? ⟨p, 4, none⟩ = some (.string s) ∧ wx.cell? ⟨p, 5, none⟩ = some (.string t) ∧ wx.cell? ⟨p, 6, none⟩ = some (.slice la ln lc) ∧ wx.cell? ⟨p, 7, none⟩ = some (.slice ra rn rc)) := hid (fun h => ⟨h.ob.cell 0, h.ob.cell 1, h.ob.cell 2, h.ob.cell 3, h.ob.cell 4, h.ob.cell 5, h.ob.cell 6, h.ob.cell 7⟩)
  rw [e0] at HR0 HB0
  rw [show (opCells _).toArray = _ from e0]
  dsimp only at hk hok ⊢
  have k0 : (kind == 0) = false := by rw [hk]; rfl
  have k1 : (kind == 1) = false := by rw [hk]; rfl
  have k2 : (kind == 2) = false := by rw [hk]; rfl
  have k3 : (kind == 3) = false := by rw [hk]; rfl
  have k4 : (kind == 4) = true := by rw [hk]; rfl
  clear hok e0 h
  have HFa0 := hid (arith_both kind oa ob HOk.out.fa HOk.out.fb (by omega)).2
  clear hk
  go_enter Tryd.func10, Tryd.ntmps10
  go_upto_region 1 with fail
  generalize hwr : ((w.alloc (Obj.cells #[.int .i64 kind, .int .i64 oa, .int .i64 ob, .int .i64 oc, .string s, .string t, .slice la ln lc, .slice ra rn rc] 36)).alloc (Obj.cells #[.int .i64 0, .bool false, .int .i64 0, .int .i64 0, .string ⟨#[]⟩, .slice none 0 0, .slice none 0 0] 39)) = wr at HR0 HB0 ⊢
  clear hwr hp
  obtain ⟨x0, x1, x2, x3, x4, x5, x6, x7⟩ := HCl.out HR0.out
  have HF := hid HFa0
  obtain ⟨pp, hpp⟩ : ∃ x, arithP kind oa ob = x := ⟨_, rfl⟩
  rw [hpp] at HF
  obtain ⟨pv, pc⟩ := pp
  have Hpp := hid hpp
  dsimp only at HF
  clear hpp HFa0
  go_wp2_with fail
  refine (HF.out _).mono ?_
  rintro e1 w1 ⟨rfl, hb1⟩
  have HR1 := hid (HR0.out.below hb1)
  clear HF HR0 hb1 x0 x1 x2 x3 x4 x5 x6 x7
  go_wp2_with (refine wpList_store_blk rfl 39 _ _ rfl (p + 1) rfl (ouC pc false pv 0 ByteArray.empty nilV nilV) rfl HR1.out.ou rfl I0.out (ou_one _ _ _ _ _ _ _ _ _ _ _) ?_; intro w9 HB9 HU9)
  have HFin := HR1.out.fin (O := { oz with c := (arithP kind oa ob).2, i := (arithP kind oa ob).1 }) rfl rfl HU9.out
  rw [Hpp.out] at HFin
  exact bodyPost_ret (results_blk (cs := ouC pc false pv 0 ByteArray.empty nilV nilV) Tryd.results10 rfl aggOu HB9.out) rfl (by rw [Hpp.out]; exact HFin)
theorem mstep5_walk (h : Blk w mB 31 (stC S)) (o : TOp) (hok : OpOk w o) (hk : o.kind = 5) : Calls Tryd.prog 10 #[.pointer (some ⟨mB, 0, none⟩), .agg (opCells o).toArray] w fun e w' => MsP w mB ({ oz with c := (arithP o.kind o.a o.b).2, i := (arithP o.kind o.a o.b).1 }) (S) e w' := by
  have HR0 := hid (Ms.new h o)
  have HB0 := hid (Rs.newB w o)
  have I0 := hid info_ou
  have HOk := hid hok
  obtain ⟨p, hp⟩ : ∃ p, w.heap.size = p := ⟨_, rfl⟩
  rw [hp] at HR0
  obtain ⟨kind, oa, ob, oc, s, t, la, ln, lc, list, ra, rn, rc, recs⟩ := o
  have e0 : (opCells ⟨kind, oa, ob, oc, s, t, la, ln, lc, list, ra, rn, rc, recs⟩).toArray = #[.int .i64 kind, .int .i64 oa, .int .i64 ob, .int .i64 oc, .string s, .string t, .slice la ln lc, .slice ra rn rc] := rfl
  have HCl : Hid (∀ {S'} {wx : World}, Ms w mB p ⟨kind, oa, ob, oc, s, t, la, ln, lc, list, ra, rn, rc, recs⟩ S' wx → wx.cell? ⟨p, 0, none⟩ = some (.int .i64 kind) ∧ wx.cell? ⟨p, 1, none⟩ = some (.int .i64 oa) ∧ wx.cell? ⟨p, 2, none⟩ = some (.int .i64 ob) ∧ wx.cell? ⟨p, 3, none⟩ = some (.int .i64 oc) ∧ wx.cell? ⟨p, 4, none⟩ = some (.string s) ∧ wx.cell? ⟨p, 5, none⟩ = some (.string t) ∧ wx.cell? ⟨p, 6, none⟩ = some (.slice la ln lc) ∧ wx.cell? ⟨p, 7, none⟩ = some (.slice ra rn rc)) := hid (fun h => ⟨h.ob.cell 0, h.ob.cell 1, h.ob.cell 2, h.ob.cell 3, h.ob.cell 4, h.ob.cell 5, h.ob.cell 6, h.ob.cell 7⟩)
  rw [e0] at HR0 HB0
  rw [show (opCells _).toArray = _ from e0]
  dsimp only at hk hok ⊢
  have k0 : (kind == 0) = false := by rw [hk]; rfl
  have k1 : (kind == 1) = false := by rw [hk]; rfl
  have k2 : (kind == 2) = false := by rw [hk]; rfl
  have k3 : (kind == 3) = false := by rw [hk]; rfl
  have k4 : (kind == 4) = false := by rw [hk]; rfl
  have k5 : (kind == 5) = true := by rw [hk]; rfl
  clear hok e0 h
  have HFa0 := hid (arith_both kind oa ob HOk.out.fa HOk.out.fb (by omega)).2
  clear hk
  go_enter Tryd.func10, Tryd.ntmps10
  go_upto_region 1 with fail
  generalize hwr : ((w.alloc (Obj.cells #[.int .i64 kind, .int .i64 oa, .int .i64 ob, .int .i64 oc, .string s, .string t, .slice la ln lc, .slice ra rn rc] 36)).alloc (Obj.cells #[.int .i64 0, .bool false, .int .i64 0, .int .i64 0, .string ⟨#[]⟩, .slice none 0 0, .slice none 0 0] 39)) = wr at HR0 HB0 ⊢
  clear hwr hp
  obtain ⟨x0, x1, x2, x3, x4, x5, x6, x7⟩ := HCl.out HR0.out
  have HF := hid HFa0
  obtain ⟨pp, hpp⟩ : ∃ x, arithP kind oa ob = x := ⟨_, rfl⟩
  rw [hpp] at HF
  obtain ⟨pv, pc⟩ := pp
  have Hpp := hid hpp
  dsimp only at HF
  clear hpp HFa0
  go_wp2_with fail
  refine (HF.out _).mono ?_
  rintro e1 w1 ⟨rfl, hb1⟩
  have HR1 := hid (HR0.out.below hb1)
  clear HF HR0 hb1 x0 x1 x2 x3 x4 x5 x6 x7
  go_wp2_with (refine wpList_store_blk rfl 39 _ _ rfl (p + 1) rfl (ouC pc false pv 0 ByteArray.empty nilV nilV) rfl HR1.out.ou rfl I0.out (ou_one _ _ _ _ _ _ _ _ _ _ _) ?_; intro w9 HB9 HU9)
  have HFin := HR1.out.fin (O := { oz with c := (arithP kind oa ob).2, i := (arithP kind oa ob).1 }) rfl rfl HU9.out
  rw [Hpp.out] at HFin
  exact bodyPost_ret (results_blk (cs := ouC pc false pv 0 ByteArray.empty nilV nilV) Tryd.results10 rfl aggOu HB9.out) rfl (by rw [Hpp.out]; exact HFin)
theorem mstep6_walk (h : Blk w mB 31 (stC S)) (o : TOp) (hok : OpOk w o) (hk : o.kind = 6) : Calls Tryd.prog 10 #[.pointer (some ⟨mB, 0, none⟩), .agg (opCells o).toArray] w fun e w' => MsP w mB ({ oz with c := (arithP o.kind o.a o.b).2, i := (arithP o.kind o.a o.b).1 }) (S) e w' := by
  have HR0 := hid (Ms.new h o)
  have HB0 := hid (Rs.newB w o)
  have I0 := hid info_ou
  have HOk := hid hok
  obtain ⟨p, hp⟩ : ∃ p, w.heap.size = p := ⟨_, rfl⟩
  rw [hp] at HR0
  obtain ⟨kind, oa, ob, oc, s, t, la, ln, lc, list, ra, rn, rc, recs⟩ := o
  have e0 : (opCells ⟨kind, oa, ob, oc, s, t, la, ln, lc, list, ra, rn, rc, recs⟩).toArray = #[.int .i64 kind, .int .i64 oa, .int .i64 ob, .int .i64 oc, .string s, .string t, .slice la ln lc, .slice ra rn rc] := rfl
  have HCl : Hid (∀ {S'} {wx : World}, Ms w mB p ⟨kind, oa, ob, oc, s, t, la, ln, lc, list, ra, rn, rc, recs⟩ S' wx → wx.cell? ⟨p, 0, none⟩ = some (.int .i64 kind) ∧ wx.cell? ⟨p, 1, none⟩ = some (.int .i64 oa) ∧ wx.cell? ⟨p, 2, none⟩ = some (.int .i64 ob) ∧ wx.cell? ⟨p, 3, none⟩ = some (.int .i64 oc) ∧ wx.cell? ⟨p, 4, none⟩ = some (.string s) ∧ wx.cell? ⟨p, 5, none⟩ = some (.string t) ∧ wx.cell? ⟨p, 6, none⟩ = some (.slice la ln lc) ∧ wx.cell? ⟨p, 7, none⟩ = some (.slice ra rn rc)) := hid (fun h => ⟨h.ob.cell 0, h.ob.cell 1, h.ob.cell 2, h.ob.cell 3, h.ob.cell 4, h.ob.cell 5, h.ob.cell 6, h.ob.cell 7⟩)
  rw [e0] at HR0 HB0
  rw [show (opCells _).toArray = _ from e0]
  dsimp only at hk hok ⊢
  have k0 : (kind == 0) = false := by rw [hk]; rfl
  have k1 : (kind == 1) = false := by rw [hk]; rfl
  have k2 : (kind == 2) = false := by rw [hk]; rfl
  have k3 : (kind == 3) = false := by rw [hk]; rfl
  have k4 : (kind == 4) = false := by rw [hk]; rfl
  have k5 : (kind == 5) = false := by rw [hk]; rfl
  have k6 : (kind == 6) = true := by rw [hk]; rfl
  clear hok e0 h
  have HFa0 := hid (arith_both kind oa ob HOk.out.fa HOk.out.fb (by omega)).2
  clear hk
  go_enter Tryd.func10, Tryd.ntmps10
  go_upto_region 1 with fail
  generalize hwr : ((w.alloc (Obj.cells #[.int .i64 kind, .int .i64 oa, .int .i64 ob, .int .i64 oc, .string s, .string t, .slice la ln lc, .slice ra rn rc] 36)).alloc (Obj.cells #[.int .i64 0, .bool false, .int .i64 0, .int .i64 0, .string ⟨#[]⟩, .slice none 0 0, .slice none 0 0] 39)) = wr at HR0 HB0 ⊢
  clear hwr hp
  obtain ⟨x0, x1, x2, x3, x4, x5, x6, x7⟩ := HCl.out HR0.out
  have HF := hid HFa0
  obtain ⟨pp, hpp⟩ : ∃ x, arithP kind oa ob = x := ⟨_, rfl⟩
  rw [hpp] at HF
  obtain ⟨pv, pc⟩ := pp
  have Hpp := hid hpp
  dsimp only at HF
  clear hpp HFa0
  go_wp2_with fail
  refine (HF.out _).mono ?_
  rintro e1 w1 ⟨rfl, hb1⟩
  have HR1 := hid (HR0.out.below hb1)
  clear HF HR0 hb1 x0 x1 x2 x3 x4 x5 x6 x7
  go_wp2_with (refine wpList_store_blk rfl 39 _ _ rfl (p + 1) rfl (ouC pc false pv 0 ByteArray.empty nilV nilV) rfl HR1.out.ou rfl I0.out (ou_one _ _ _ _ _ _ _ _ _ _ _) ?_; intro w9 HB9 HU9)
  have HFin := HR1.out.fin (O := { oz with c := (arithP kind oa ob).2, i := (arithP kind oa ob).1 }) rfl rfl HU9.out
  rw [Hpp.out] at HFin
  exact bodyPost_ret (results_blk (cs := ouC pc false pv 0 ByteArray.empty nilV nilV) Tryd.results10 rfl aggOu HB9.out) rfl (by rw [Hpp.out]; exact HFin)
theorem mstep7_walk (h : Blk w mB 31 (stC S)) (o : TOp) (hok : OpOk w o) (hk : o.kind = 7) : Calls Tryd.prog 10 #[.pointer (some ⟨mB, 0, none⟩), .agg (opCells o).toArray] w fun e w' => MsP w mB ({ oz with c := (arithP o.kind o.a o.b).2, i := (arithP o.kind o.a o.b).1 }) (S) e w' := by
  have HR0 := hid (Ms.new h o)
  have HB0 := hid (Rs.newB w o)
  have I0 := hid info_ou
  have HOk := hid hok
  obtain ⟨p, hp⟩ : ∃ p, w.heap.size = p := ⟨_, rfl⟩
  rw [hp] at HR0
  obtain ⟨kind, oa, ob, oc, s, t, la, ln, lc, list, ra, rn, rc, recs⟩ := o
  have e0 : (opCells ⟨kind, oa, ob, oc, s, t, la, ln, lc, list, ra, rn, rc, recs⟩).toArray = #[.int .i64 kind, .int .i64 oa, .int .i64 ob, .int .i64 oc, .string s, .string t, .slice la ln lc, .slice ra rn rc] := rfl
  have HCl : Hid (∀ {S'} {wx : World}, Ms w mB p ⟨kind, oa, ob, oc, s, t, la, ln, lc, list, ra, rn, rc, recs⟩ S' wx → wx.cell? ⟨p, 0, none⟩ = some (.int .i64 kind) ∧ wx.cell? ⟨p, 1, none⟩ = some (.int .i64 oa) ∧ wx.cell? ⟨p, 2, none⟩ = some (.int .i64 ob) ∧ wx.cell? ⟨p, 3, none⟩ = some (.int .i64 oc) ∧ wx.cell? ⟨p, 4, none⟩ = some (.string s) ∧ wx.cell? ⟨p, 5, none⟩ = some (.string t) ∧ wx.cell? ⟨p, 6, none⟩ = some (.slice la ln lc) ∧ wx.cell? ⟨p, 7, none⟩ = some (.slice ra rn rc)) := hid (fun h => ⟨h.ob.cell 0, h.ob.cell 1, h.ob.cell 2, h.ob.cell 3, h.ob.cell 4, h.ob.cell 5, h.ob.cell 6, h.ob.cell 7⟩)
  rw [e0] at HR0 HB0
  rw [show (opCells _).toArray = _ from e0]
  dsimp only at hk hok ⊢
  have k0 : (kind == 0) = false := by rw [hk]; rfl
  have k1 : (kind == 1) = false := by rw [hk]; rfl
  have k2 : (kind == 2) = false := by rw [hk]; rfl
  have k3 : (kind == 3) = false := by rw [hk]; rfl
  have k4 : (kind == 4) = false := by rw [hk]; rfl
  have k5 : (kind == 5) = false := by rw [hk]; rfl
  have k6 : (kind == 6) = false := by rw [hk]; rfl
  have k7 : (kind == 7) = true := by rw [hk]; rfl
  clear hok e0 h
  have HFa0 := hid (arith_both kind oa ob HOk.out.fa HOk.out.fb (by omega)).2
  clear hk
  go_enter Tryd.func10, Tryd.ntmps10
  go_upto_region 1 with fail
  generalize hwr : ((w.alloc (Obj.cells #[.int .i64 kind, .int .i64 oa, .int .i64 ob, .int .i64 oc, .string s, .string t, .slice la ln lc, .slice ra rn rc] 36)).alloc (Obj.cells #[.int .i64 0, .bool false, .int .i64 0, .int .i64 0, .string ⟨#[]⟩, .slice none 0 0, .slice none 0 0] 39)) = wr at HR0 HB0 ⊢
  clear hwr hp
  obtain ⟨x0, x1, x2, x3, x4, x5, x6, x7⟩ := HCl.out HR0.out
  have HF := hid HFa0
  obtain ⟨pp, hpp⟩ : ∃ x, arithP kind oa ob = x := ⟨_, rfl⟩
  rw [hpp] at HF
  obtain ⟨pv, pc⟩ := pp
  have Hpp := hid hpp
  dsimp only at HF
  clear hpp HFa0
  go_wp2_with fail
  refine (HF.out _).mono ?_
  rintro e1 w1 ⟨rfl, hb1⟩
  have HR1 := hid (HR0.out.below hb1)
  clear HF HR0 hb1 x0 x1 x2 x3 x4 x5 x6 x7
  go_wp2_with (refine wpList_store_blk rfl 39 _ _ rfl (p + 1) rfl (ouC pc false pv 0 ByteArray.empty nilV nilV) rfl HR1.out.ou rfl I0.out (ou_one _ _ _ _ _ _ _ _ _ _ _) ?_; intro w9 HB9 HU9)
  have HFin := HR1.out.fin (O := { oz with c := (arithP kind oa ob).2, i := (arithP kind oa ob).1 }) rfl rfl HU9.out
  rw [Hpp.out] at HFin
  exact bodyPost_ret (results_blk (cs := ouC pc false pv 0 ByteArray.empty nilV nilV) Tryd.results10 rfl aggOu HB9.out) rfl (by rw [Hpp.out]; exact HFin)
theorem mstep8_walk (h : Blk w mB 31 (stC S)) (o : TOp) (hok : OpOk w o) (hk : o.kind = 8) : Calls Tryd.prog 10 #[.pointer (some ⟨mB, 0, none⟩), .agg (opCells o).toArray] w fun e w' => MsP w mB ({ oz with f := ltS o.s o.t, i := cmpL o.s.data.toList o.t.data.toList }) (S) e w' := by
  have HR0 := hid (Ms.new h o)
  have HB0 := hid (Rs.newB w o)
  have I0 := hid info_ou
  have HOk := hid hok
  obtain ⟨p, hp⟩ : ∃ p, w.heap.size = p := ⟨_, rfl⟩
  rw [hp] at HR0
  obtain ⟨kind, oa, ob, oc, s, t, la, ln, lc, list, ra, rn, rc, recs⟩ := o
  have e0 : (opCells ⟨kind, oa, ob, oc, s, t, la, ln, lc, list, ra, rn, rc, recs⟩).toArray = #[.int .i64 kind, .int .i64 oa, .int .i64 ob, .int .i64 oc, .string s, .string t, .slice la ln lc, .slice ra rn rc] := rfl
  have HCl : Hid (∀ {S'} {wx : World}, Ms w mB p ⟨kind, oa, ob, oc, s, t, la, ln, lc, list, ra, rn, rc, recs⟩ S' wx → wx.cell? ⟨p, 0, none⟩ = some (.int .i64 kind) ∧ wx.cell? ⟨p, 1, none⟩ = some (.int .i64 oa) ∧ wx.cell? ⟨p, 2, none⟩ = some (.int .i64 ob) ∧ wx.cell? ⟨p, 3, none⟩ = some (.int .i64 oc) ∧ wx.cell? ⟨p, 4, none⟩ = some (.string s) ∧ wx.cell? ⟨p, 5, none⟩ = some (.string t) ∧ wx.cell? ⟨p, 6, none⟩ = some (.slice la ln lc) ∧ wx.cell? ⟨p, 7, none⟩ = some (.slice ra rn rc)) := hid (fun h => ⟨h.ob.cell 0, h.ob.cell 1, h.ob.cell 2, h.ob.cell 3, h.ob.cell 4, h.ob.cell 5, h.ob.cell 6, h.ob.cell 7⟩)
  rw [e0] at HR0 HB0
  rw [show (opCells _).toArray = _ from e0]
  dsimp only at hk hok ⊢
  have k0 : (kind == 0) = false := by rw [hk]; rfl
  have k1 : (kind == 1) = false := by rw [hk]; rfl
  have k2 : (kind == 2) = false := by rw [hk]; rfl
  have k3 : (kind == 3) = false := by rw [hk]; rfl
  have k4 : (kind == 4) = false := by rw [hk]; rfl
  have k5 : (kind == 5) = false := by rw [hk]; rfl
  have k6 : (kind == 6) = false := by rw [hk]; rfl
  have k7 : (kind == 7) = false := by rw [hk]; rfl
  have k8 : (kind == 8) = true := by rw [hk]; rfl
  clear hok e0 h
  clear hk
  go_enter Tryd.func10, Tryd.ntmps10
  go_upto_region 1 with fail
  generalize hwr : ((w.alloc (Obj.cells #[.int .i64 kind, .int .i64 oa, .int .i64 ob, .int .i64 oc, .string s, .string t, .slice la ln lc, .slice ra rn rc] 36)).alloc (Obj.cells #[.int .i64 0, .bool false, .int .i64 0, .int .i64 0, .string ⟨#[]⟩, .slice none 0 0, .slice none 0 0] 39)) = wr at HR0 HB0 ⊢
  clear hwr hp
  obtain ⟨x0, x1, x2, x3, x4, x5, x6, x7⟩ := HCl.out HR0.out
  obtain ⟨ci, hci⟩ : ∃ x, cmpL s.data.toList t.data.toList = x := ⟨_, rfl⟩
  obtain ⟨bl, hbl⟩ : ∃ x, ltS s t = x := ⟨_, rfl⟩
  have HF1 : Hid (∀ wx, Calls Tryd.prog 43 #[.string s, .string t] wx fun e w' => e = .returned (.int .i64 ci) ∧ w' = wx) := hid (fun wx => by rw [← hci]; exact mcompare_walk s t wx)
  have q1 : Op.bytesLess s.toList t.toList = bl := by rw [← hbl, toList_data, toList_data, bytesLess_cmp]; rfl
  have Hci := hid hci
  have Hbl := hid hbl
  clear hci hbl
  go_upto_region 16 with fail
  obtain ⟨X, W, HTT, H0, hne, HC⟩ := class_below wr
  have HX : Hid (∀ y, Ms w mB p ⟨kind, oa, ob, oc, s, t, la, ln, lc, list, ra, rn, rc, recs⟩ S (W y)) := hid (fun y => HR0.out.below (HTT.out y))
  have y4 : ∀ y, (W y).cell? ⟨p, 4, none⟩ = some (.string s) := fun y => (HCl.out (HX.out y)).2.2.2.2.1
  have y5 : ∀ y, (W y).cell? ⟨p, 5, none⟩ = some (.string t) := fun y => (HCl.out (HX.out y)).2.2.2.2.2.1
  refine wp_region_class_tailT W 11 (by kernel_rfl) (by kernel_rfl) (by kernel_rfl) H0.out ?_
  dsimp only [List.take]
  repeat (go_big_quiet_step ((go_at_call 43; exact Calls.class_same (HF1.out _))))
  refine wpQuiet_nil ?_
  intro z
  have HZ := hid (HX.out z)
  generalize W z = wz at HZ ⊢
  clear y4 y5 HF1 H0 HTT HC hne HX HR0 x0 x1 x2 x3 x4 x5 x6 x7
  dsimp only [List.drop]
  refine wpList_store_blk rfl 39 _ _ rfl (p + 1) rfl (ouC 0 bl ci 0 ByteArray.empty nilV nilV) rfl HZ.out.ou rfl I0.out (ou_one _ _ _ _ _ _ _ _ _ _ _) ?_
  intro w9 HB9 HU9
  go_wp2
  exact bodyPost_ret (results_blk (cs := ouC 0 bl ci 0 ByteArray.empty nilV nilV) Tryd.results10 rfl aggOu HB9.out) rfl (by
    have h := HZ.out.fin (O := { oz with f := ltS s t, i := cmpL s.data.toList t.data.toList }) rfl rfl HU9.out
    rw [Hci.out, Hbl.out] at h ⊢
    exact h)
theorem mstep9_walk (h : Blk w mB 31 (stC S)) (o : TOp) (hok : OpOk w o) (hk : o.kind = 9) (hl : o.ln ≤ 65536) : Calls Tryd.prog 10 #[.pointer (some ⟨mB, 0, none⟩), .agg (opCells o).toArray] w fun e w' => MsP w mB ({ oz with f := true, list := ssort ltS o.list }) (S) e w' := by
  have HR0 := hid (Ms.new h o)
  have HB0 := hid (Rs.newB w o)
  have I0 := hid info_ou
  have HOk := hid hok
  obtain ⟨p, hp⟩ : ∃ p, w.heap.size = p := ⟨_, rfl⟩
  rw [hp] at HR0
  obtain ⟨kind, oa, ob, oc, s, t, la, ln, lc, list, ra, rn, rc, recs⟩ := o
  have e0 : (opCells ⟨kind, oa, ob, oc, s, t, la, ln, lc, list, ra, rn, rc, recs⟩).toArray = #[.int .i64 kind, .int .i64 oa, .int .i64 ob, .int .i64 oc, .string s, .string t, .slice la ln lc, .slice ra rn rc] := rfl
  have HCl : Hid (∀ {S'} {wx : World}, Ms w mB p ⟨kind, oa, ob, oc, s, t, la, ln, lc, list, ra, rn, rc, recs⟩ S' wx → wx.cell? ⟨p, 0, none⟩ = some (.int .i64 kind) ∧ wx.cell? ⟨p, 1, none⟩ = some (.int .i64 oa) ∧ wx.cell? ⟨p, 2, none⟩ = some (.int .i64 ob) ∧ wx.cell? ⟨p, 3, none⟩ = some (.int .i64 oc) ∧ wx.cell? ⟨p, 4, none⟩ = some (.string s) ∧ wx.cell? ⟨p, 5, none⟩ = some (.string t) ∧ wx.cell? ⟨p, 6, none⟩ = some (.slice la ln lc) ∧ wx.cell? ⟨p, 7, none⟩ = some (.slice ra rn rc)) := hid (fun h => ⟨h.ob.cell 0, h.ob.cell 1, h.ob.cell 2, h.ob.cell 3, h.ob.cell 4, h.ob.cell 5, h.ob.cell 6, h.ob.cell 7⟩)
  rw [e0] at HR0 HB0
  rw [show (opCells _).toArray = _ from e0]
  dsimp only at hk hok ⊢
  have k0 : (kind == 0) = false := by rw [hk]; rfl
  have k1 : (kind == 1) = false := by rw [hk]; rfl
  have k2 : (kind == 2) = false := by rw [hk]; rfl
  have k3 : (kind == 3) = false := by rw [hk]; rfl
  have k4 : (kind == 4) = false := by rw [hk]; rfl
  have k5 : (kind == 5) = false := by rw [hk]; rfl
  have k6 : (kind == 6) = false := by rw [hk]; rfl
  have k7 : (kind == 7) = false := by rw [hk]; rfl
  have k8 : (kind == 8) = false := by rw [hk]; rfl
  have k9 : (kind == 9) = true := by rw [hk]; rfl
  clear hok e0 h
  clear hk
  go_enter Tryd.func10, Tryd.ntmps10
  go_upto_region 1 with fail
  generalize hwr : ((w.alloc (Obj.cells #[.int .i64 kind, .int .i64 oa, .int .i64 ob, .int .i64 oc, .string s, .string t, .slice la ln lc, .slice ra rn rc] 36)).alloc (Obj.cells #[.int .i64 0, .bool false, .int .i64 0, .int .i64 0, .string ⟨#[]⟩, .slice none 0 0, .slice none 0 0] 39)) = wr at HR0 HB0 ⊢
  clear hwr hp
  obtain ⟨x0, x1, x2, x3, x4, x5, x6, x7⟩ := HCl.out HR0.out
  have hl : ln ≤ 65536 := hl
  have HF := hid (msortStrings_walk la ln lc list wr (HOk.out.below HB0.out).list hl)
  have Hsz : Hid (p + 2 ≤ wr.heap.size) := hid (by have := HR0.out.ou.lt; omega)
  clear hl
  go_wp2_with fail
  refine HF.out.mono ?_
  rintro e1 w1 ⟨v1, rfl, hr1, hb1⟩
  have HR1 := hid (HR0.out.below hb1)
  obtain ⟨a1, q1, rfl⟩ := hr1.shape
  have HO := hid (hr1.mono Hsz.out)
  clear hb1 hr1 HF HR0 x0 x1 x2 x3 x4 x5 x6 x7
  go_wp2_with (refine wpList_store_blk rfl 39 _ _ rfl (p + 1) rfl (ouC 0 true 0 0 ByteArray.empty (.slice a1 (ssort ltS list).length q1) nilV) rfl HR1.out.ou rfl I0.out (ou_one _ _ _ _ _ _ _ _ _ _ _) ?_; intro w9 HB9 HU9)
  exact bodyPost_ret (results_blk (cs := ouC 0 true 0 0 ByteArray.empty (.slice a1 (ssort ltS list).length q1) nilV) Tryd.results10 rfl aggOu HB9.out) rfl (HR1.out.finL (O := { oz with f := true, list := ssort ltS list }) HO.out rfl HU9.out)
theorem mstep10_walk (h : Blk w mB 31 (stC S)) (o : TOp) (hok : OpOk w o) (hk : o.kind = 10) (hl : o.rn ≤ 65536) : Calls Tryd.prog 10 #[.pointer (some ⟨mB, 0, none⟩), .agg (opCells o).toArray] w fun e w' => MsP w mB ({ oz with recs := ssort ltK o.recs }) (S) e w' := by
  have HR0 := hid (Ms.new h o)
  have HB0 := hid (Rs.newB w o)
  have I0 := hid info_ou
  have HOk := hid hok
  obtain ⟨p, hp⟩ : ∃ p, w.heap.size = p := ⟨_, rfl⟩
  rw [hp] at HR0
  obtain ⟨kind, oa, ob, oc, s, t, la, ln, lc, list, ra, rn, rc, recs⟩ := o
  have e0 : (opCells ⟨kind, oa, ob, oc, s, t, la, ln, lc, list, ra, rn, rc, recs⟩).toArray = #[.int .i64 kind, .int .i64 oa, .int .i64 ob, .int .i64 oc, .string s, .string t, .slice la ln lc, .slice ra rn rc] := rfl
  have HCl : Hid (∀ {S'} {wx : World}, Ms w mB p ⟨kind, oa, ob, oc, s, t, la, ln, lc, list, ra, rn, rc, recs⟩ S' wx → wx.cell? ⟨p, 0, none⟩ = some (.int .i64 kind) ∧ wx.cell? ⟨p, 1, none⟩ = some (.int .i64 oa) ∧ wx.cell? ⟨p, 2, none⟩ = some (.int .i64 ob) ∧ wx.cell? ⟨p, 3, none⟩ = some (.int .i64 oc) ∧ wx.cell? ⟨p, 4, none⟩ = some (.string s) ∧ wx.cell? ⟨p, 5, none⟩ = some (.string t) ∧ wx.cell? ⟨p, 6, none⟩ = some (.slice la ln lc) ∧ wx.cell? ⟨p, 7, none⟩ = some (.slice ra rn rc)) := hid (fun h => ⟨h.ob.cell 0, h.ob.cell 1, h.ob.cell 2, h.ob.cell 3, h.ob.cell 4, h.ob.cell 5, h.ob.cell 6, h.ob.cell 7⟩)
  rw [e0] at HR0 HB0
  rw [show (opCells _).toArray = _ from e0]
  dsimp only at hk hok ⊢
  have k0 : (kind == 0) = false := by rw [hk]; rfl
  have k1 : (kind == 1) = false := by rw [hk]; rfl
  have k2 : (kind == 2) = false := by rw [hk]; rfl
  have k3 : (kind == 3) = false := by rw [hk]; rfl
  have k4 : (kind == 4) = false := by rw [hk]; rfl
  have k5 : (kind == 5) = false := by rw [hk]; rfl
  have k6 : (kind == 6) = false := by rw [hk]; rfl
  have k7 : (kind == 7) = false := by rw [hk]; rfl
  have k8 : (kind == 8) = false := by rw [hk]; rfl
  have k9 : (kind == 9) = false := by rw [hk]; rfl
  have k10 : (kind == 10) = true := by rw [hk]; rfl
  clear hok e0 h
  clear hk
  go_enter Tryd.func10, Tryd.ntmps10
  go_upto_region 1 with fail
  generalize hwr : ((w.alloc (Obj.cells #[.int .i64 kind, .int .i64 oa, .int .i64 ob, .int .i64 oc, .string s, .string t, .slice la ln lc, .slice ra rn rc] 36)).alloc (Obj.cells #[.int .i64 0, .bool false, .int .i64 0, .int .i64 0, .string ⟨#[]⟩, .slice none 0 0, .slice none 0 0] 39)) = wr at HR0 HB0 ⊢
  clear hwr hp
  obtain ⟨x0, x1, x2, x3, x4, x5, x6, x7⟩ := HCl.out HR0.out
  have hl : rn ≤ 65536 := hl
  have HF := hid (msortKeyed_walk ra rn rc recs wr (HOk.out.below HB0.out).recs hl)
  have Hsz : Hid (p + 2 ≤ wr.heap.size) := hid (by have := HR0.out.ou.lt; omega)
  clear hl
  go_wp2_with fail
  refine HF.out.mono ?_
  rintro e1 w1 ⟨v1, rfl, hr1, hb1⟩
  have HR1 := hid (HR0.out.below hb1)
  obtain ⟨a1, q1, rfl⟩ := hr1.shape
  have HO := hid (hr1.mono Hsz.out)
  clear hb1 hr1 HF HR0 x0 x1 x2 x3 x4 x5 x6 x7
  go_wp2_with (refine wpList_store_blk rfl 39 _ _ rfl (p + 1) rfl (ouC 0 false 0 0 ByteArray.empty nilV (.slice a1 (ssort ltK recs).length q1)) rfl HR1.out.ou rfl I0.out (ou_one _ _ _ _ _ _ _ _ _ _ _) ?_; intro w9 HB9 HU9)
  exact bodyPost_ret (results_blk (cs := ouC 0 false 0 0 ByteArray.empty nilV (.slice a1 (ssort ltK recs).length q1)) Tryd.results10 rfl aggOu HB9.out) rfl (HR1.out.finK (O := { oz with recs := ssort ltK recs }) rfl HO.out HU9.out)
theorem mstep11_walk (h : Blk w mB 31 (stC S)) (o : TOp) (hok : OpOk w o) (hk : o.kind = 11) (hl : o.ln ≤ 65536) : Calls Tryd.prog 10 #[.pointer (some ⟨mB, 0, none⟩), .agg (opCells o).toArray] w fun e w' => MsP w mB ({ oz with i := (belP (ssort ltS o.list) o.s : Int), f := fndP (ssort ltS o.list) o.s }) (S) e w' := by
  have HR0 := hid (Ms.new h o)
  have HB0 := hid (Rs.newB w o)
  have I0 := hid info_ou
  have HOk := hid hok
  obtain ⟨p, hp⟩ : ∃ p, w.heap.size = p := ⟨_, rfl⟩
  rw [hp] at HR0
  obtain ⟨kind, oa, ob, oc, s, t, la, ln, lc, list, ra, rn, rc, recs⟩ := o
  have e0 : (opCells ⟨kind, oa, ob, oc, s, t, la, ln, lc, list, ra, rn, rc, recs⟩).toArray = #[.int .i64 kind, .int .i64 oa, .int .i64 ob, .int .i64 oc, .string s, .string t, .slice la ln lc, .slice ra rn rc] := rfl
  have HCl : Hid (∀ {S'} {wx : World}, Ms w mB p ⟨kind, oa, ob, oc, s, t, la, ln, lc, list, ra, rn, rc, recs⟩ S' wx → wx.cell? ⟨p, 0, none⟩ = some (.int .i64 kind) ∧ wx.cell? ⟨p, 1, none⟩ = some (.int .i64 oa) ∧ wx.cell? ⟨p, 2, none⟩ = some (.int .i64 ob) ∧ wx.cell? ⟨p, 3, none⟩ = some (.int .i64 oc) ∧ wx.cell? ⟨p, 4, none⟩ = some (.string s) ∧ wx.cell? ⟨p, 5, none⟩ = some (.string t) ∧ wx.cell? ⟨p, 6, none⟩ = some (.slice la ln lc) ∧ wx.cell? ⟨p, 7, none⟩ = some (.slice ra rn rc)) := hid (fun h => ⟨h.ob.cell 0, h.ob.cell 1, h.ob.cell 2, h.ob.cell 3, h.ob.cell 4, h.ob.cell 5, h.ob.cell 6, h.ob.cell 7⟩)
  rw [e0] at HR0 HB0
  rw [show (opCells _).toArray = _ from e0]
  dsimp only at hk hok ⊢
  have k0 : (kind == 0) = false := by rw [hk]; rfl
  have k1 : (kind == 1) = false := by rw [hk]; rfl
  have k2 : (kind == 2) = false := by rw [hk]; rfl
  have k3 : (kind == 3) = false := by rw [hk]; rfl
  have k4 : (kind == 4) = false := by rw [hk]; rfl
  have k5 : (kind == 5) = false := by rw [hk]; rfl
  have k6 : (kind == 6) = false := by rw [hk]; rfl
  have k7 : (kind == 7) = false := by rw [hk]; rfl
  have k8 : (kind == 8) = false := by rw [hk]; rfl
  have k9 : (kind == 9) = false := by rw [hk]; rfl
  have k10 : (kind == 10) = false := by rw [hk]; rfl
  have k11 : (kind == 11) = true := by rw [hk]; rfl
  clear hok e0 h
  clear hk
  go_enter Tryd.func10, Tryd.ntmps10
  go_upto_region 1 with fail
  generalize hwr : ((w.alloc (Obj.cells #[.int .i64 kind, .int .i64 oa, .int .i64 ob, .int .i64 oc, .string s, .string t, .slice la ln lc, .slice ra rn rc] 36)).alloc (Obj.cells #[.int .i64 0, .bool false, .int .i64 0, .int .i64 0, .string ⟨#[]⟩, .slice none 0 0, .slice none 0 0] 39)) = wr at HR0 HB0 ⊢
  clear hwr hp
  obtain ⟨x0, x1, x2, x3, x4, x5, x6, x7⟩ := HCl.out HR0.out
  have hl : ln ≤ 65536 := hl
  have HF := hid (fun (wx : World) (hb : Below w.heap.size w wx) => msortStrings_walk la ln lc list wx (HOk.out.below hb).list hl)
  have HLs : Hid ((ssort ltS list).length ≤ 65536) := hid (by rw [ssort_length, HOk.out.list.len]; exact hl)
  obtain ⟨fi, hfi⟩ : ∃ x, belP (ssort ltS list) s = x := ⟨_, rfl⟩
  obtain ⟨fb, hfb⟩ : ∃ x, fndP (ssort ltS list) s = x := ⟨_, rfl⟩
  have esv : seV (ssort ltS list) s = .tuple #[.int .i64 (fi : Int), .bool fb] := by unfold seV; rw [hfi, hfb]
  have HSe : Hid (∀ (a1 : Option Addr) (n1 c1 : Nat) (wx : World), RowOf wx 1 strCell a1 n1 c1 (ssort ltS list) → Calls Tryd.prog 46 #[.slice a1 n1 c1, .string s] wx fun e w' => e = .returned (.tuple #[.int .i64 (fi : Int), .bool fb]) ∧ w' = wx) := hid (fun a1 n1 c1 wx hr => by
    rw [← esv]
    exact msearch_walk a1 n1 c1 _ (by rw [← hr.len]; exact HLs.out) s wx hr)
  have Hfi := hid hfi
  have Hfb := hid hfb
  clear hl hfi hfb esv
  go_upto_region 22 with fail
  have HBd : Hid (Below wr.heap.size wr wr.drew) := hid (Drew.below ⟨1, rfl⟩ _)
  go_cut [9, 10] from 83 to 91 (fun v u wc => v = .int .i64 (fi : Int) ∧ u = .bool fb ∧ Hid (Ms w mB p ⟨kind, oa, ob, oc, s, t, la, ln, lc, list, ra, rn, rc, recs⟩ S wc))
  case first =>
    have HRd := hid (HR0.out.below HBd.out)
    have HBw := hid (HB0.out.trans (HBd.out.mono HB0.out.size))
    have z4 := (HCl.out HRd.out).2.2.2.2.1
    have z6 := (HCl.out HRd.out).2.2.2.2.2.2.1
    go_region_with (first | (go_at_call 44; refine (HF.out _ HBw.out).mono ?_; rintro e1 w1 ⟨v1, rfl, hr1, hb1⟩; have HR1 := hid (HRd.out.below hb1); have y4 := (HCl.out HR1.out).2.2.2.2.1; obtain ⟨a1, n1, c1, rfl, hrow⟩ := hr1.rowS (Nat.le_trans HLs.out (by omega)); have HSe1 := hid (HSe.out a1 n1 c1 _ hrow); clear hr1 hb1 hrow) | (go_at_call 46; refine HSe1.out.mono ?_; rintro e2 w2 ⟨rfl, rfl⟩))
    all_goals
      go_wp2
      go_meet
      exact ⟨rfl, rfl, HR1⟩
  case rest =>
    obtain ⟨rfl, rfl, HR1⟩ := hcut
    clear HR0 x0 x1 x2 x3 x4 x5 x6 x7
    go_wp2_with (refine wpList_store_blk rfl 39 _ _ rfl (p + 1) rfl (ouC 0 fb (fi : Int) 0 ByteArray.empty nilV nilV) rfl HR1.out.ou rfl I0.out (ou_one _ _ _ _ _ _ _ _ _ _ _) ?_; intro w9 HB9 HU9)
    exact bodyPost_ret (results_blk (cs := ouC 0 fb (fi : Int) 0 ByteArray.empty nilV nilV) Tryd.results10 rfl aggOu HB9.out) rfl (by
      have h := HR1.out.fin (O := { oz with i := (belP (ssort ltS list) s : Int), f := fndP (ssort ltS list) s }) rfl rfl HU9.out
      rw [Hfi.out, Hfb.out] at h ⊢
      exact h)
end
end Go.Proofs.Qxb6500890aDoor
