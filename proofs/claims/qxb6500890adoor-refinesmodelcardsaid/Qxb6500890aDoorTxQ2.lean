/- The model's step: kinds 12 to 18. Written by tools/mk_txq.py. -/
import Derived.Test.Qxb6500890aDoorTxQ1
namespace Go.Proofs.Qxb6500890aDoor
open Go.RowKit
set_option linter.unusedSimpArgs false
set_option linter.unusedVariables false

section
variable {w wr w' : World} {mB p : Nat} {S S' : TS} {o : TOp}
set_option maxRecDepth 100000
set_option maxHeartbeats 2000000
theorem mstep12_walk (h : Blk w mB 31 (stC S)) (o : TOp) (hok : OpOk w o) (hk : o.kind = 12) : Calls Tryd.prog 10 #[.pointer (some ⟨mB, 0, none⟩), .agg (opCells o).toArray] w fun e w' => MsP w mB (shO { S with bs := [], lim := o.a.toNat } 0) ({ S with bs := [], lim := o.a.toNat }) e w' := by
  have HR0 := hid (Ms.new h o)
  have HB0 := hid (Rs.newB w o)
  have I0 := hid info_ou
  have HOk := hid hok
  obtain ⟨p, hp⟩ : ∃ p, w.heap.size = p := ⟨_, rfl⟩
  rw [hp] at HR0
  obtain ⟨kind, oa, ob, oc, s, t, la, ln, lc, list, ra, rn, rc, recs⟩ := o
  have e0 : (opCells ⟨kind, oa, ob, oc, s, t, la, ln, lc, list, ra, rn, rc, recs⟩).toArray = #[.int .i64 kind, .int .i64 oa, .int .i64 ob, .int .i64 oc, .string s, .string t, .slice la ln lc, .slice ra rn rc] := rfl
  have HCl : Hid (∀ {S'} {wx : World}, Ms w mB p ⟨kind, oa, ob, oc, s, t, la, ln, lc, list, ra, rn, rc, recs⟩ S' wx → wx.cell? ⟨p, 0, none⟩ = some (.int .i64 kind) ∧ wx.cell? ⟨p, 1, none⟩ = some (.int .i64 oa) ∧ wx.cell? ⟨p, 2, none⟩ = some (.int .i64 ob) ∧ wx.cell? ⟨p, 3, none⟩ = some (.int .i64 oc) ∧ wx.cell? ⟨p, 4, none⟩ = some (.string s) ∧ wx.cell? ⟨p, 5, none⟩ = some (.string t) ∧ wx.cell? ⟨p, 6, none⟩ = some (.slice la ln lc) ∧ wx.cell? ⟨p, 7, none⟩ = some (.slice ra rn rc)) := hid (fun h => ⟨h.ob.cell 0, h.ob.cell 1, h.ob.cell 2, h.ob.cell 3, h.ob.cell 4, h.ob.cell 5, h.ob.cell 6, h.ob.cell 7⟩)
  rw [e0] at HR0 HB0
  rw [show (opCells _).toArray = _ from e0]
  dsimp only at hk hok ⊢
  have k0 : (kind == 0) = false := by rw [hk]; rfl
  have k1 : (kind == 1) = false := by rw [hk]; rfl
  have k2 : (kind == 2) = false := by rw [hk]; rfl
  have k3 : (kind == 3) = false := by rw [hk]; rfl
  have k4 : (kind == 4) = false := by rw [hk]; rfl
  have k5 : (kind == 5) = false := by rw [hk]; rfl
  have k6 : (kind == 6) = false := by rw [hk]; rfl
  have k7 : (kind == 7) = false := by rw [hk]; rfl
  have k8 : (kind == 8) = false := by rw [hk]; rfl
  have k9 : (kind == 9) = false := by rw [hk]; rfl
  have k10 : (kind == 10) = false := by rw [hk]; rfl
  have k11 : (kind == 11) = false := by rw [hk]; rfl
  have k12 : (kind == 12) = true := by rw [hk]; rfl
  clear hok e0 h
  clear hk
  go_enter Tryd.func10, Tryd.ntmps10
  go_upto_region 1 with fail
  generalize hwr : ((w.alloc (Obj.cells #[.int .i64 kind, .int .i64 oa, .int .i64 ob, .int .i64 oc, .string s, .string t, .slice la ln lc, .slice ra rn rc] 36)).alloc (Obj.cells #[.int .i64 0, .bool false, .int .i64 0, .int .i64 0, .string ⟨#[]⟩, .slice none 0 0, .slice none 0 0] 39)) = wr at HR0 HB0 ⊢
  clear hwr hp
  obtain ⟨x0, x1, x2, x3, x4, x5, x6, x7⟩ := HCl.out HR0.out
  obtain ⟨bs, lim, ⟨ec, el, ek⟩⟩ := S
  have c0 : wr.cell? ⟨mB, 0, none⟩ = some (.string (bsA bs)) := (st_cells HR0.out.mb).1
  have c1 : wr.cell? ⟨mB, 1, none⟩ = some (.int .i64 (lim : Int)) := (st_cells HR0.out.mb).2.1
  have f0 : wr.frozen? ⟨mB, 0, none⟩ = false := HR0.out.mb.frozen _
  have f1 : wr.frozen? ⟨mB, 1, none⟩ = false := HR0.out.mb.frozen _
  have HN : Hid (Ms w mB p ⟨kind, oa, ob, oc, s, t, la, ln, lc, list, ra, rn, rc, recs⟩ ⟨[], 0, ⟨ec, el, ek⟩⟩ ((wr.setCell ⟨mB, 0, none⟩ (.string ⟨#[]⟩)).setCell ⟨mB, 1, none⟩ (.int .i64 0))) := hid ((HR0.out.set (S' := ⟨[], lim, ⟨ec, el, ek⟩⟩) rfl).set rfl)
  go_upto_region 26 with fail
  generalize hw2 : (wr.setCell ⟨mB, 0, none⟩ (.string ⟨#[]⟩)).setCell ⟨mB, 1, none⟩ (.int .i64 0) = w2 at HN ⊢
  clear hw2 c0 c1 f0 f1 HR0 x0 x1 x2 x3 x4 x5 x6 x7
  have x1 := (HCl.out HN.out).2.1
  obtain ⟨n, hn⟩ : ∃ n, oa.toNat = n := ⟨_, rfl⟩
  have Hn := hid hn
  by_cases h0 : 0 < oa
  · have d0 : decide (oa > 0) = true := decide_eq_true h0
    have hno : oa = (n : Int) := by omega
    have HN2 : Hid (Ms w mB p ⟨kind, oa, ob, oc, s, t, la, ln, lc, list, ra, rn, rc, recs⟩ ⟨[], n, ⟨ec, el, ek⟩⟩ (w2.setCell ⟨mB, 1, none⟩ (.int .i64 oa))) := hid (HN.out.set (by rw [hno]; rfl))
    have c1 : w2.cell? ⟨mB, 1, none⟩ = some (.int .i64 0) := (st_cells HN.out.mb).2.1
    have f1 : w2.frozen? ⟨mB, 1, none⟩ = false := HN.out.mb.frozen _
    clear hno hn
    go_upto_region 28 with fail
    generalize hw3 : w2.setCell ⟨mB, 1, none⟩ (.int .i64 oa) = w3 at HN2 ⊢
    clear hw3 c1 f1 HN x1
    have HSh := hid (mshow_walk HN2.out.mb (by simp) 0)
    go_wp2_with fail
    refine HSh.out.mono ?_
    rintro e8 w8 ⟨rfl, hb8⟩
    have HR8 := hid (HN2.out.below hb8)
    clear hb8 HSh HN2
    go_wp2_with (refine wpList_store_blk rfl 39 _ _ rfl (p + 1) rfl (ouC (shO ⟨[], n, ⟨ec, el, ek⟩⟩ 0).c (shO ⟨[], n, ⟨ec, el, ek⟩⟩ 0).f (shO ⟨[], n, ⟨ec, el, ek⟩⟩ 0).i (shO ⟨[], n, ⟨ec, el, ek⟩⟩ 0).j (shO ⟨[], n, ⟨ec, el, ek⟩⟩ 0).s nilV nilV) rfl HR8.out.ou rfl I0.out (ou_one _ _ _ _ _ _ _ _ _ _ _) ?_; intro w9 HB9 HU9)
    exact bodyPost_ret (results_blk (cs := ouC (shO ⟨[], n, ⟨ec, el, ek⟩⟩ 0).c (shO ⟨[], n, ⟨ec, el, ek⟩⟩ 0).f (shO ⟨[], n, ⟨ec, el, ek⟩⟩ 0).i (shO ⟨[], n, ⟨ec, el, ek⟩⟩ 0).j (shO ⟨[], n, ⟨ec, el, ek⟩⟩ 0).s nilV nilV) Tryd.results10 rfl aggOu HB9.out) rfl (by rw [Hn.out]; exact HR8.out.fin (O := shO ⟨[], n, ⟨ec, el, ek⟩⟩ 0) rfl rfl HU9.out)
  · have d0 : decide (oa > 0) = false := decide_eq_false h0
    have hn0 : n = 0 := by omega
    subst hn0
    clear hn
    go_upto_region 28 with fail
    clear x1
    have HSh := hid (mshow_walk HN.out.mb (by simp) 0)
    go_wp2_with fail
    refine HSh.out.mono ?_
    rintro e8 w8 ⟨rfl, hb8⟩
    have HR8 := hid (HN.out.below hb8)
    clear hb8 HSh HN
    go_wp2_with (refine wpList_store_blk rfl 39 _ _ rfl (p + 1) rfl (ouC (shO ⟨[], 0, ⟨ec, el, ek⟩⟩ 0).c (shO ⟨[], 0, ⟨ec, el, ek⟩⟩ 0).f (shO ⟨[], 0, ⟨ec, el, ek⟩⟩ 0).i (shO ⟨[], 0, ⟨ec, el, ek⟩⟩ 0).j (shO ⟨[], 0, ⟨ec, el, ek⟩⟩ 0).s nilV nilV) rfl HR8.out.ou rfl I0.out (ou_one _ _ _ _ _ _ _ _ _ _ _) ?_; intro w9 HB9 HU9)
    exact bodyPost_ret (results_blk (cs := ouC (shO ⟨[], 0, ⟨ec, el, ek⟩⟩ 0).c (shO ⟨[], 0, ⟨ec, el, ek⟩⟩ 0).f (shO ⟨[], 0, ⟨ec, el, ek⟩⟩ 0).i (shO ⟨[], 0, ⟨ec, el, ek⟩⟩ 0).j (shO ⟨[], 0, ⟨ec, el, ek⟩⟩ 0).s nilV nilV) Tryd.results10 rfl aggOu HB9.out) rfl (by rw [Hn.out]; exact HR8.out.fin (O := shO ⟨[], 0, ⟨ec, el, ek⟩⟩ 0) rfl rfl HU9.out)
theorem mwrite2_walk (h : Blk w mB 31 (stC S)) (s : ByteArray) (cs : List UInt8) (hcs : s.data.toList = cs) (hl : S.bs.length + s.size ≤ 68719476736) (hlm : S.lim ≤ 9223372036854775807) : Calls Tryd.prog 48 #[.pointer (some ⟨mB, 0, none⟩), .string s] w fun e w' => e = .returned (ouV (shO (wrS S cs) (wrC S cs)) nilV nilV) ∧ Blk w' mB 31 (stC (wrS S cs)) ∧ Upd mB w w' := by
  subst hcs
  exact mwriteN_walk h s hl hlm
theorem mstep13_walk (h : Blk w mB 31 (stC S)) (o : TOp) (hok : OpOk w o) (hk : o.kind = 13) (hb : S.bs.length + 65536 ≤ 68719476736) (hlm : S.lim ≤ 9223372036854775807) : Calls Tryd.prog 10 #[.pointer (some ⟨mB, 0, none⟩), .agg (opCells o).toArray] w fun e w' => MsP w mB (shO (wrS S ([byteA o.a])) (wrC S ([byteA o.a]))) (wrS S ([byteA o.a])) e w' := by
  have HR0 := hid (Ms.new h o)
  have HB0 := hid (Rs.newB w o)
  have I0 := hid info_ou
  have HOk := hid hok
  obtain ⟨p, hp⟩ : ∃ p, w.heap.size = p := ⟨_, rfl⟩
  rw [hp] at HR0
  obtain ⟨kind, oa, ob, oc, s, t, la, ln, lc, list, ra, rn, rc, recs⟩ := o
  have e0 : (opCells ⟨kind, oa, ob, oc, s, t, la, ln, lc, list, ra, rn, rc, recs⟩).toArray = #[.int .i64 kind, .int .i64 oa, .int .i64 ob, .int .i64 oc, .string s, .string t, .slice la ln lc, .slice ra rn rc] := rfl
  have HCl : Hid (∀ {S'} {wx : World}, Ms w mB p ⟨kind, oa, ob, oc, s, t, la, ln, lc, list, ra, rn, rc, recs⟩ S' wx → wx.cell? ⟨p, 0, none⟩ = some (.int .i64 kind) ∧ wx.cell? ⟨p, 1, none⟩ = some (.int .i64 oa) ∧ wx.cell? ⟨p, 2, none⟩ = some (.int .i64 ob) ∧ wx.cell? ⟨p, 3, none⟩ = some (.int .i64 oc) ∧ wx.cell? ⟨p, 4, none⟩ = some (.string s) ∧ wx.cell? ⟨p, 5, none⟩ = some (.string t) ∧ wx.cell? ⟨p, 6, none⟩ = some (.slice la ln lc) ∧ wx.cell? ⟨p, 7, none⟩ = some (.slice ra rn rc)) := hid (fun h => ⟨h.ob.cell 0, h.ob.cell 1, h.ob.cell 2, h.ob.cell 3, h.ob.cell 4, h.ob.cell 5, h.ob.cell 6, h.ob.cell 7⟩)
  rw [e0] at HR0 HB0
  rw [show (opCells _).toArray = _ from e0]
  dsimp only at hk hok ⊢
  have k0 : (kind == 0) = false := by rw [hk]; rfl
  have k1 : (kind == 1) = false := by rw [hk]; rfl
  have k2 : (kind == 2) = false := by rw [hk]; rfl
  have k3 : (kind == 3) = false := by rw [hk]; rfl
  have k4 : (kind == 4) = false := by rw [hk]; rfl
  have k5 : (kind == 5) = false := by rw [hk]; rfl
  have k6 : (kind == 6) = false := by rw [hk]; rfl
  have k7 : (kind == 7) = false := by rw [hk]; rfl
  have k8 : (kind == 8) = false := by rw [hk]; rfl
  have k9 : (kind == 9) = false := by rw [hk]; rfl
  have k10 : (kind == 10) = false := by rw [hk]; rfl
  have k11 : (kind == 11) = false := by rw [hk]; rfl
  have k12 : (kind == 12) = false := by rw [hk]; rfl
  have k13 : (kind == 13) = true := by rw [hk]; rfl
  clear hok e0 h
  clear hk
  go_enter Tryd.func10, Tryd.ntmps10
  go_upto_region 1 with fail
  generalize hwr : ((w.alloc (Obj.cells #[.int .i64 kind, .int .i64 oa, .int .i64 ob, .int .i64 oc, .string s, .string t, .slice la ln lc, .slice ra rn rc] 36)).alloc (Obj.cells #[.int .i64 0, .bool false, .int .i64 0, .int .i64 0, .string ⟨#[]⟩, .slice none 0 0, .slice none 0 0] 39)) = wr at HR0 HB0 ⊢
  clear hwr hp
  obtain ⟨x0, x1, x2, x3, x4, x5, x6, x7⟩ := HCl.out HR0.out
  have e8 := byteA_wrap oa
  have hcv := one_str wr (byteA oa)
  have Hbb : Hid (((byteA oa).toNat : Int) < 256) := hid (by have := (byteA oa).toNat_lt; omega)
  have HRw := hid (HR0.out.below (nbel wr (.cells #[.int .u8 ((byteA oa).toNat : Int)] 5)))
  have HW := hid (mwrite2_walk HRw.out.mb ⟨#[byteA oa]⟩ [byteA oa] rfl (by show S.bs.length + 1 ≤ _; omega) hlm)
  obtain ⟨gw, hgw⟩ : ∃ x, wr.heap.size = x := ⟨_, rfl⟩
  rw [hgw] at hcv
  clear hb hlm
  go_wp2_with fail
  refine HW.out.mono ?_
  rintro e8 w8 ⟨rfl, hb8, hu8⟩
  have HR8 := hid (HRw.out.next hb8 hu8)
  clear hb8 hu8 HW
  obtain ⟨S9, hS9⟩ : ∃ x, wrS S ([byteA oa]) = x := ⟨_, rfl⟩
  obtain ⟨c9, hc9⟩ : ∃ x, wrC S ([byteA oa]) = x := ⟨_, rfl⟩
  rw [hS9] at HR8
  rw [hS9, hc9]
  have HS9 := hid hS9
  have Hc9 := hid hc9
  clear hS9 hc9
  go_wp2_with (refine wpList_store_blk rfl 39 _ _ rfl (p + 1) rfl (ouC c9 false (S9.bs.length : Int) (S9.lim : Int) (bsA S9.bs) nilV nilV) rfl HR8.out.ou rfl I0.out (ou_one _ _ _ _ _ _ _ _ _ _ _) ?_; intro w9 HB9 HU9)
  exact bodyPost_ret (results_blk (cs := ouC c9 false (S9.bs.length : Int) (S9.lim : Int) (bsA S9.bs) nilV nilV) Tryd.results10 rfl aggOu HB9.out) rfl (by
    have h := HR8.out.fin (O := shO S9 c9) rfl rfl HU9.out
    rw [← HS9.out, ← Hc9.out] at h ⊢
    exact h)
theorem mstep14_walk (h : Blk w mB 31 (stC S)) (o : TOp) (hok : OpOk w o) (hk : o.kind = 14) (hb : S.bs.length + 65536 ≤ 68719476736) (hlm : S.lim ≤ 9223372036854775807) (hs : o.s.size ≤ 65536) : Calls Tryd.prog 10 #[.pointer (some ⟨mB, 0, none⟩), .agg (opCells o).toArray] w fun e w' => MsP w mB (shO (wrS S (o.s.data.toList)) (wrC S (o.s.data.toList))) (wrS S (o.s.data.toList)) e w' := by
  have HR0 := hid (Ms.new h o)
  have HB0 := hid (Rs.newB w o)
  have I0 := hid info_ou
  have HOk := hid hok
  obtain ⟨p, hp⟩ : ∃ p, w.heap.size = p := ⟨_, rfl⟩
  rw [hp] at HR0
  obtain ⟨kind, oa, ob, oc, s, t, la, ln, lc, list, ra, rn, rc, recs⟩ := o
  have e0 : (opCells ⟨kind, oa, ob, oc, s, t, la, ln, lc, list, ra, rn, rc, recs⟩).toArray = #[.int .i64 kind, .int .i64 oa, .int .i64 ob, .int .i64 oc, .string s, .string t, .slice la ln lc, .slice ra rn rc] := rfl
  have HCl : Hid (∀ {S'} {wx : World}, Ms w mB p ⟨kind, oa, ob, oc, s, t, la, ln, lc, list, ra, rn, rc, recs⟩ S' wx → wx.cell? ⟨p, 0, none⟩ = some (.int .i64 kind) ∧ wx.cell? ⟨p, 1, none⟩ = some (.int .i64 oa) ∧ wx.cell? ⟨p, 2, none⟩ = some (.int .i64 ob) ∧ wx.cell? ⟨p, 3, none⟩ = some (.int .i64 oc) ∧ wx.cell? ⟨p, 4, none⟩ = some (.string s) ∧ wx.cell? ⟨p, 5, none⟩ = some (.string t) ∧ wx.cell? ⟨p, 6, none⟩ = some (.slice la ln lc) ∧ wx.cell? ⟨p, 7, none⟩ = some (.slice ra rn rc)) := hid (fun h => ⟨h.ob.cell 0, h.ob.cell 1, h.ob.cell 2, h.ob.cell 3, h.ob.cell 4, h.ob.cell 5, h.ob.cell 6, h.ob.cell 7⟩)
  rw [e0] at HR0 HB0
  rw [show (opCells _).toArray = _ from e0]
  dsimp only at hk hok ⊢
  have k0 : (kind == 0) = false := by rw [hk]; rfl
  have k1 : (kind == 1) = false := by rw [hk]; rfl
  have k2 : (kind == 2) = false := by rw [hk]; rfl
  have k3 : (kind == 3) = false := by rw [hk]; rfl
  have k4 : (kind == 4) = false := by rw [hk]; rfl
  have k5 : (kind == 5) = false := by rw [hk]; rfl
  have k6 : (kind == 6) = false := by rw [hk]; rfl
  have k7 : (kind == 7) = false := by rw [hk]; rfl
  have k8 : (kind == 8) = false := by rw [hk]; rfl
  have k9 : (kind == 9) = false := by rw [hk]; rfl
  have k10 : (kind == 10) = false := by rw [hk]; rfl
  have k11 : (kind == 11) = false := by rw [hk]; rfl
  have k12 : (kind == 12) = false := by rw [hk]; rfl
  have k13 : (kind == 13) = false := by rw [hk]; rfl
  have k14 : (kind == 14) = true := by rw [hk]; rfl
  clear hok e0 h
  clear hk
  go_enter Tryd.func10, Tryd.ntmps10
  go_upto_region 1 with fail
  generalize hwr : ((w.alloc (Obj.cells #[.int .i64 kind, .int .i64 oa, .int .i64 ob, .int .i64 oc, .string s, .string t, .slice la ln lc, .slice ra rn rc] 36)).alloc (Obj.cells #[.int .i64 0, .bool false, .int .i64 0, .int .i64 0, .string ⟨#[]⟩, .slice none 0 0, .slice none 0 0] 39)) = wr at HR0 HB0 ⊢
  clear hwr hp
  obtain ⟨x0, x1, x2, x3, x4, x5, x6, x7⟩ := HCl.out HR0.out
  have hs : s.size ≤ 65536 := hs
  have HRw := hid HR0.out
  have HW := hid (mwrite2_walk HRw.out.mb s s.data.toList rfl (by omega) hlm)
  clear hb hlm hs
  go_wp2_with fail
  refine HW.out.mono ?_
  rintro e8 w8 ⟨rfl, hb8, hu8⟩
  have HR8 := hid (HRw.out.next hb8 hu8)
  clear hb8 hu8 HW
  obtain ⟨S9, hS9⟩ : ∃ x, wrS S (s.data.toList) = x := ⟨_, rfl⟩
  obtain ⟨c9, hc9⟩ : ∃ x, wrC S (s.data.toList) = x := ⟨_, rfl⟩
  rw [hS9] at HR8
  rw [hS9, hc9]
  have HS9 := hid hS9
  have Hc9 := hid hc9
  clear hS9 hc9
  go_wp2_with (refine wpList_store_blk rfl 39 _ _ rfl (p + 1) rfl (ouC c9 false (S9.bs.length : Int) (S9.lim : Int) (bsA S9.bs) nilV nilV) rfl HR8.out.ou rfl I0.out (ou_one _ _ _ _ _ _ _ _ _ _ _) ?_; intro w9 HB9 HU9)
  exact bodyPost_ret (results_blk (cs := ouC c9 false (S9.bs.length : Int) (S9.lim : Int) (bsA S9.bs) nilV nilV) Tryd.results10 rfl aggOu HB9.out) rfl (by
    have h := HR8.out.fin (O := shO S9 c9) rfl rfl HU9.out
    rw [← HS9.out, ← Hc9.out] at h ⊢
    exact h)
theorem mstep15_walk (h : Blk w mB 31 (stC S)) (o : TOp) (hok : OpOk w o) (hk : o.kind = 15) (hb : S.bs.length + 65536 ≤ 68719476736) (hlm : S.lim ≤ 9223372036854775807) : Calls Tryd.prog 10 #[.pointer (some ⟨mB, 0, none⟩), .agg (opCells o).toArray] w fun e w' => MsP w mB (shO (wrS S (fmtL o.a)) (wrC S (fmtL o.a))) (wrS S (fmtL o.a)) e w' := by
  have HR0 := hid (Ms.new h o)
  have HB0 := hid (Rs.newB w o)
  have I0 := hid info_ou
  have HOk := hid hok
  obtain ⟨p, hp⟩ : ∃ p, w.heap.size = p := ⟨_, rfl⟩
  rw [hp] at HR0
  obtain ⟨kind, oa, ob, oc, s, t, la, ln, lc, list, ra, rn, rc, recs⟩ := o
  have e0 : (opCells ⟨kind, oa, ob, oc, s, t, la, ln, lc, list, ra, rn, rc, recs⟩).toArray = #[.int .i64 kind, .int .i64 oa, .int .i64 ob, .int .i64 oc, .string s, .string t, .slice la ln lc, .slice ra rn rc] := rfl
  have HCl : Hid (∀ {S'} {wx : World}, Ms w mB p ⟨kind, oa, ob, oc, s, t, la, ln, lc, list, ra, rn, rc, recs⟩ S' wx → wx.cell? ⟨p, 0, none⟩ = some (.int .i64 kind) ∧ wx.cell? ⟨p, 1, none⟩ = some (.int .i64 oa) ∧ wx.cell? ⟨p, 2, none⟩ = some (.int .i64 ob) ∧ wx.cell? ⟨p, 3, none⟩ = some (.int .i64 oc) ∧ wx.cell? ⟨p, 4, none⟩ = some (.string s) ∧ wx.cell? ⟨p, 5, none⟩ = some (.string t) ∧ wx.cell? ⟨p, 6, none⟩ = some (.slice la ln lc) ∧ wx.cell? ⟨p, 7, none⟩ = some (.slice ra rn rc)) := hid (fun h => ⟨h.ob.cell 0, h.ob.cell 1, h.ob.cell 2, h.ob.cell 3, h.ob.cell 4, h.ob.cell 5, h.ob.cell 6, h.ob.cell 7⟩)
  rw [e0] at HR0 HB0
  rw [show (opCells _).toArray = _ from e0]
  dsimp only at hk hok ⊢
  have k0 : (kind == 0) = false := by rw [hk]; rfl
  have k1 : (kind == 1) = false := by rw [hk]; rfl
  have k2 : (kind == 2) = false := by rw [hk]; rfl
  have k3 : (kind == 3) = false := by rw [hk]; rfl
  have k4 : (kind == 4) = false := by rw [hk]; rfl
  have k5 : (kind == 5) = false := by rw [hk]; rfl
  have k6 : (kind == 6) = false := by rw [hk]; rfl
  have k7 : (kind == 7) = false := by rw [hk]; rfl
  have k8 : (kind == 8) = false := by rw [hk]; rfl
  have k9 : (kind == 9) = false := by rw [hk]; rfl
  have k10 : (kind == 10) = false := by rw [hk]; rfl
  have k11 : (kind == 11) = false := by rw [hk]; rfl
  have k12 : (kind == 12) = false := by rw [hk]; rfl
  have k13 : (kind == 13) = false := by rw [hk]; rfl
  have k14 : (kind == 14) = false := by rw [hk]; rfl
  have k15 : (kind == 15) = true := by rw [hk]; rfl
  clear hok e0 h
  clear hk
  go_enter Tryd.func10, Tryd.ntmps10
  go_upto_region 1 with fail
  generalize hwr : ((w.alloc (Obj.cells #[.int .i64 kind, .int .i64 oa, .int .i64 ob, .int .i64 oc, .string s, .string t, .slice la ln lc, .slice ra rn rc] 36)).alloc (Obj.cells #[.int .i64 0, .bool false, .int .i64 0, .int .i64 0, .string ⟨#[]⟩, .slice none 0 0, .slice none 0 0] 39)) = wr at HR0 HB0 ⊢
  clear hwr hp
  obtain ⟨x0, x1, x2, x3, x4, x5, x6, x7⟩ := HCl.out HR0.out
  have HF := hid (mformat_walk oa HOk.out.fa)
  have hfl := fmt_len oa HOk.out.fa.1 HOk.out.fa.2
  go_wp2_with fail
  refine (HF.out _).mono ?_
  rintro e1 w1 ⟨rfl, hb1⟩
  have HRw := hid (HR0.out.below hb1)
  have HW := hid (mwrite2_walk HRw.out.mb ⟨(fmtL oa).toArray⟩ (fmtL oa) rfl (by show S.bs.length + (fmtL oa).length ≤ _; omega) hlm)
  generalize (⟨(fmtL oa).toArray⟩ : ByteArray) = st at HW ⊢
  clear hb1 HF HR0 hb hlm hfl x0 x1 x2 x3 x4 x5 x6 x7
  go_wp2_with fail
  refine HW.out.mono ?_
  rintro e8 w8 ⟨rfl, hb8, hu8⟩
  have HR8 := hid (HRw.out.next hb8 hu8)
  clear hb8 hu8 HW
  obtain ⟨S9, hS9⟩ : ∃ x, wrS S (fmtL oa) = x := ⟨_, rfl⟩
  obtain ⟨c9, hc9⟩ : ∃ x, wrC S (fmtL oa) = x := ⟨_, rfl⟩
  rw [hS9] at HR8
  rw [hS9, hc9]
  have HS9 := hid hS9
  have Hc9 := hid hc9
  clear hS9 hc9
  go_wp2_with (refine wpList_store_blk rfl 39 _ _ rfl (p + 1) rfl (ouC c9 false (S9.bs.length : Int) (S9.lim : Int) (bsA S9.bs) nilV nilV) rfl HR8.out.ou rfl I0.out (ou_one _ _ _ _ _ _ _ _ _ _ _) ?_; intro w9 HB9 HU9)
  exact bodyPost_ret (results_blk (cs := ouC c9 false (S9.bs.length : Int) (S9.lim : Int) (bsA S9.bs) nilV nilV) Tryd.results10 rfl aggOu HB9.out) rfl (by
    have h := HR8.out.fin (O := shO S9 c9) rfl rfl HU9.out
    rw [← HS9.out, ← Hc9.out] at h ⊢
    exact h)
end
end Go.Proofs.Qxb6500890aDoor
