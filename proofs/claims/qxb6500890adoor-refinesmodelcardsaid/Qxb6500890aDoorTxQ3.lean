/- The model's step: kinds 16 to 18. Written by tools/mk_txq.py. -/
import Derived.Test.Qxb6500890aDoorTxQ2
namespace Go.Proofs.Qxb6500890aDoor
open Go.RowKit
set_option linter.unusedSimpArgs false
set_option linter.unusedVariables false

theorem bsA_take (bs : List UInt8) (n : Nat) (h : n ≤ bs.length) : (bsA bs).extract 0 n = bsA (bs.take n) := by
  apply ByteArray.ext
  rw [ByteArray.data_extract]
  simp [bsA]
theorem bsA_get (bs : List UInt8) {i : Nat} (h : i < (bsA bs).size) : (bsA bs)[i] = bs.getD i 0 := by
  have h2 : i < bs.length := h
  rw [List.getD_eq_getElem?_getD, List.getElem?_eq_getElem h2]
  rfl
section
variable {w wr w' : World} {mB p : Nat} {S S' : TS} {o : TOp}
set_option maxRecDepth 100000
set_option maxHeartbeats 2000000
theorem mstep16_walk (h : Blk w mB 31 (stC S)) (o : TOp) (hok : OpOk w o) (hk : o.kind = 16) (hbl : S.bs.length ≤ 68719476736) : Calls Tryd.prog 10 #[.pointer (some ⟨mB, 0, none⟩), .agg (opCells o).toArray] w fun e w' => MsP w mB (shO (trS S o.a) (trC S o.a)) (trS S o.a) e w' := by
  have HR0 := hid (Ms.new h o)
  have HB0 := hid (Rs.newB w o)
  have I0 := hid info_ou
  have HOk := hid hok
  obtain ⟨p, hp⟩ : ∃ p, w.heap.size = p := ⟨_, rfl⟩
  rw [hp] at HR0
  obtain ⟨kind, oa, ob, oc, s, t, la, ln, lc, list, ra, rn, rc, recs⟩ := o
  have e0 : (opCells ⟨kind, oa, ob, oc, s, t, la, ln, lc, list, ra, rn, rc, recs⟩).toArray = #[.int .i64 kind, .int .i64 oa, .int .i64 ob, .int .i64 oc, .string s, .string t, .slice la ln lc, .slice ra rn rc] := rfl
  have HCl : Hid (∀ {S'} {wx : World}, Ms w mB p ⟨kind, oa, ob, oc, s, t, la, ln, lc, list, ra, rn, rc, recs⟩ S' wx → wx.cell? ⟨p, 0, none⟩ = some (.int .i64 kind) ∧ wx.cell? ⟨p, 1, none⟩ = some (.int .i64 oa) ∧ wx.cell? ⟨p, 2, none⟩ = some (.int .i64 ob) ∧ wx.cell? ⟨p, 3, none⟩ = some (.int .i64 oc) ∧ wx.cell? ⟨p, 4, none⟩ = some (.string s) ∧ wx.cell? ⟨p, 5, none⟩ = some (.string t) ∧ wx.cell? ⟨p, 6, none⟩ = some (.slice la ln lc) ∧ wx.cell? ⟨p, 7, none⟩ = some (.slice ra rn rc)) := hid (fun h => ⟨h.ob.cell 0, h.ob.cell 1, h.ob.cell 2, h.ob.cell 3, h.ob.cell 4, h.ob.cell 5, h.ob.cell 6, h.ob.cell 7⟩)
  rw [e0] at HR0 HB0
  rw [show (opCells _).toArray = _ from e0]
  dsimp only at hk hok ⊢
  have k0 : (kind == 0) = false := by rw [hk]; rfl
  have k1 : (kind == 1) = false := by rw [hk]; rfl
  have k2 : (kind == 2) = false := by rw [hk]; rfl
  have k3 : (kind == 3) = false := by rw [hk]; rfl
  have k4 : (kind == 4) = false := by rw [hk]; rfl
  have k5 : (kind == 5) = false := by rw [hk]; rfl
  have k6 : (kind == 6) = false := by rw [hk]; rfl
  have k7 : (kind == 7) = false := by rw [hk]; rfl
  have k8 : (kind == 8) = false := by rw [hk]; rfl
  have k9 : (kind == 9) = false := by rw [hk]; rfl
  have k10 : (kind == 10) = false := by rw [hk]; rfl
  have k11 : (kind == 11) = false := by rw [hk]; rfl
  have k12 : (kind == 12) = false := by rw [hk]; rfl
  have k13 : (kind == 13) = false := by rw [hk]; rfl
  have k14 : (kind == 14) = false := by rw [hk]; rfl
  have k15 : (kind == 15) = false := by rw [hk]; rfl
  have k16 : (kind == 16) = true := by rw [hk]; rfl
  clear hok e0 h
  clear hk
  go_enter Tryd.func10, Tryd.ntmps10
  go_upto_region 1 with fail
  generalize hwr : ((w.alloc (Obj.cells #[.int .i64 kind, .int .i64 oa, .int .i64 ob, .int .i64 oc, .string s, .string t, .slice la ln lc, .slice ra rn rc] 36)).alloc (Obj.cells #[.int .i64 0, .bool false, .int .i64 0, .int .i64 0, .string ⟨#[]⟩, .slice none 0 0, .slice none 0 0] 39)) = wr at HR0 HB0 ⊢
  clear hwr hp
  obtain ⟨x0, x1, x2, x3, x4, x5, x6, x7⟩ := HCl.out HR0.out
  obtain ⟨bs, lim, er⟩ := S
  obtain ⟨st, hst⟩ : ∃ s, bsA bs = s := ⟨_, rfl⟩
  have Hst := hid hst
  have hsz : st.size = bs.length := by rw [← hst]; rfl
  obtain ⟨n0, hn0⟩ : ∃ n, bs.length = n := ⟨_, rfl⟩
  rw [hn0] at hsz
  have Hn0 := hid hn0
  have hbn : n0 ≤ 68719476736 := by rw [← hn0]; exact hbl
  have hbn2 : (n0 : Int) ≤ 68719476736 := by omega
  have ha1 : -9223372036854775808 ≤ oa := HOk.out.fa.1
  have ha2 : oa ≤ 9223372036854775807 := HOk.out.fa.2
  obtain ⟨b3, hb3⟩ : ∃ b, (!(decide (0 ≤ oa ∧ oa ≤ (n0 : Int)))) = b := ⟨_, rfl⟩
  have Hb3 := hid hb3
  clear hst hb3 hn0 hbl
  go_upto_region 36 with fail
  go_cut [149] from 137 to 149 (fun v wc => v = .bool b3 ∧ Hid (Ms w mB p ⟨kind, oa, ob, oc, s, t, la, ln, lc, list, ra, rn, rc, recs⟩ ⟨bs, lim, er⟩ wc))
  case first =>
    obtain ⟨X, W, HTT, H0, hne, HC⟩ := class_below wr
    have HX : Hid (∀ y, Ms w mB p ⟨kind, oa, ob, oc, s, t, la, ln, lc, list, ra, rn, rc, recs⟩ ⟨bs, lim, er⟩ (W y)) := hid (fun y => HR0.out.below (HTT.out y))
    have a1 : ∀ y, (W y).cell? ⟨mB, 0, none⟩ = some (.string st) := fun y => by rw [← Hst.out]; exact (st_cells (HX.out y).mb).1
    have a2 : ∀ y, (W y).cell? ⟨p, 1, none⟩ = some (.int .i64 oa) := fun y => (HCl.out (HX.out y)).2.1
    refine wp_region_class W (by kernel_rfl) (by kernel_rfl) H0.out ?_
    by_cases h0 : oa < 0
    · have d0 : decide (oa < 0) = true := decide_eq_true h0
      have HE : Hid (true = b3) := hid (by rw [← Hb3.out]; simp; omega)
      clear h0
      repeat (go_big_quiet_step (fail))
      refine wpQuiet_nil ?_
      intro z
      have HZ := hid (HX.out z)
      generalize W z = wz at HZ ⊢
      clear a1 a2 H0 HTT HC hne HX HR0
      go_wp2
      go_meet
      exact ⟨by rw [HE.out], HZ⟩
    · have d0 : decide (oa < 0) = false := decide_eq_false h0
      obtain ⟨bq, hbq⟩ : ∃ b, decide ((n0 : Int) < oa) = b := ⟨_, rfl⟩
      have hbq2 : decide (oa > (n0 : Int)) = bq := hbq
      have HE : Hid (bq = b3) := hid (by
        rw [← Hb3.out, ← hbq, ← decide_not]
        exact decide_eq_decide.2 (by omega))
      clear h0
      repeat (go_big_quiet_step (fail))
      refine wpQuiet_nil ?_
      intro z
      have HZ := hid (HX.out z)
      generalize W z = wz at HZ ⊢
      clear a1 a2 H0 HTT HC hne HX HR0
      go_wp2
      go_meet
      exact ⟨by rw [HE.out], HZ⟩
  case rest =>
    obtain ⟨rfl, HM⟩ := hcut
    clear HR0 x0 x1 x2 x3 x4 x5 x6 x7
    cases b3 with
    | true =>
      have HE : Hid (trS ⟨bs, lim, er⟩ oa = ⟨bs, lim, er⟩ ∧ trC ⟨bs, lim, er⟩ oa = 6) := hid (by
        have h1 : ¬ (0 ≤ oa ∧ oa ≤ (n0 : Int)) := by have h2 := Hb3.out; simp at h2; omega
        unfold trS trC
        dsimp only
        rw [Hn0.out, if_neg h1, decide_eq_false h1]
        exact ⟨rfl, rfl⟩)
      have HSh := hid (mshow_walk HM.out.mb (by show bs.length ≤ _; rw [Hn0.out]; exact hbn) 6)
      go_wp2_with fail
      refine HSh.out.mono ?_
      rintro e8 w8 ⟨rfl, hb8⟩
      have HR8 := hid (HM.out.below hb8)
      clear hb8 HSh HM
      go_wp2_with (refine wpList_store_blk rfl 39 _ _ rfl (p + 1) rfl (ouC (shO ⟨bs, lim, er⟩ 6).c (shO ⟨bs, lim, er⟩ 6).f (shO ⟨bs, lim, er⟩ 6).i (shO ⟨bs, lim, er⟩ 6).j (shO ⟨bs, lim, er⟩ 6).s nilV nilV) rfl HR8.out.ou rfl I0.out (ou_one _ _ _ _ _ _ _ _ _ _ _) ?_; intro w9 HB9 HU9)
      exact bodyPost_ret (results_blk (cs := ouC (shO ⟨bs, lim, er⟩ 6).c (shO ⟨bs, lim, er⟩ 6).f (shO ⟨bs, lim, er⟩ 6).i (shO ⟨bs, lim, er⟩ 6).j (shO ⟨bs, lim, er⟩ 6).s nilV nilV) Tryd.results10 rfl aggOu HB9.out) rfl (by rw [HE.out.1, HE.out.2]; exact HR8.out.fin (O := shO ⟨bs, lim, er⟩ 6) rfl rfl HU9.out)
    | false =>
      have hin : 0 ≤ oa ∧ oa ≤ (n0 : Int) := by simpa using Hb3.out
      obtain ⟨n, hn⟩ : ∃ n : Nat, oa = (n : Int) := ⟨oa.toNat, by omega⟩
      have HE : Hid (trS ⟨bs, lim, er⟩ oa = ⟨bs.take n, lim, er⟩ ∧ trC ⟨bs, lim, er⟩ oa = 0) := hid (by
        unfold trS trC
        dsimp only
        rw [Hn0.out, if_pos hin, decide_eq_true hin, hn]
        exact ⟨rfl, rfl⟩)
      have hnn : n ≤ n0 := by omega
      obtain ⟨d, hd⟩ : ∃ d, st.extract 0 n = d := ⟨_, rfl⟩
      have Hd : Hid (d = bsA (bs.take n)) := hid (by rw [← hd, ← Hst.out]; exact bsA_take bs n (by rw [Hn0.out]; exact hnn))
      have hni : (n : Int) ≤ (n0 : Int) := by omega
      subst hn
      clear hin
      go_upto_region 38 with fail
      obtain ⟨X, W, HTT, H0, hne, HC⟩ := class_below wc
      have HX : Hid (∀ y, Ms w mB p ⟨kind, (n : Int), ob, oc, s, t, la, ln, lc, list, ra, rn, rc, recs⟩ ⟨bs, lim, er⟩ (W y)) := hid (fun y => HM.out.below (HTT.out y))
      have a1 : ∀ y, (W y).cell? ⟨mB, 0, none⟩ = some (.string st) := fun y => by rw [← Hst.out]; exact (st_cells (HX.out y).mb).1
      have a2 : ∀ y, (W y).cell? ⟨p, 1, none⟩ = some (.int .i64 (n : Int)) := fun y => (HCl.out (HX.out y)).2.1
      refine wp_region_class_tailT W 8 (by kernel_rfl) (by kernel_rfl) (by kernel_rfl) H0.out ?_
      dsimp only [List.take]
      repeat (go_big_quiet_step (fail))
      refine wpQuiet_nil ?_
      intro z
      have HZ := hid (HX.out z)
      generalize W z = wz at HZ ⊢
      clear a1 a2 H0 HTT HC hne HX HM
      dsimp only [List.drop]
      have c0 : wz.cell? ⟨mB, 0, none⟩ = some (.string st) := by rw [← Hst.out]; exact (st_cells HZ.out.mb).1
      have f0 : wz.frozen? ⟨mB, 0, none⟩ = false := HZ.out.mb.frozen _
      have HN : Hid (Ms w mB p ⟨kind, (n : Int), ob, oc, s, t, la, ln, lc, list, ra, rn, rc, recs⟩ ⟨bs.take n, lim, er⟩ (wz.setCell ⟨mB, 0, none⟩ (.string d))) := hid (HZ.out.set (by rw [Hd.out]; rfl))
      go_upto_region 39 with fail
      generalize hw3 : wz.setCell ⟨mB, 0, none⟩ (.string d) = w3 at HN ⊢
      clear hw3 c0 f0 HZ
      have HSh := hid (mshow_walk HN.out.mb (by show (bs.take n).length ≤ _; rw [List.length_take]; omega) 0)
      go_wp2_with fail
      refine HSh.out.mono ?_
      rintro e8 w8 ⟨rfl, hb8⟩
      have HR8 := hid (HN.out.below hb8)
      clear hb8 HSh HN
      go_wp2_with (refine wpList_store_blk rfl 39 _ _ rfl (p + 1) rfl (ouC (shO ⟨bs.take n, lim, er⟩ 0).c (shO ⟨bs.take n, lim, er⟩ 0).f (shO ⟨bs.take n, lim, er⟩ 0).i (shO ⟨bs.take n, lim, er⟩ 0).j (shO ⟨bs.take n, lim, er⟩ 0).s nilV nilV) rfl HR8.out.ou rfl I0.out (ou_one _ _ _ _ _ _ _ _ _ _ _) ?_; intro w9 HB9 HU9)
      exact bodyPost_ret (results_blk (cs := ouC (shO ⟨bs.take n, lim, er⟩ 0).c (shO ⟨bs.take n, lim, er⟩ 0).f (shO ⟨bs.take n, lim, er⟩ 0).i (shO ⟨bs.take n, lim, er⟩ 0).j (shO ⟨bs.take n, lim, er⟩ 0).s nilV nilV) Tryd.results10 rfl aggOu HB9.out) rfl (by rw [HE.out.1, HE.out.2]; exact HR8.out.fin (O := shO ⟨bs.take n, lim, er⟩ 0) rfl rfl HU9.out)
theorem mstep17_walk (h : Blk w mB 31 (stC S)) (o : TOp) (hok : OpOk w o) (hk : o.kind = 17) : Calls Tryd.prog 10 #[.pointer (some ⟨mB, 0, none⟩), .agg (opCells o).toArray] w fun e w' => MsP w mB (shO { S with bs := [] } 0) ({ S with bs := [] }) e w' := by
  have HR0 := hid (Ms.new h o)
  have HB0 := hid (Rs.newB w o)
  have I0 := hid info_ou
  have HOk := hid hok
  obtain ⟨p, hp⟩ : ∃ p, w.heap.size = p := ⟨_, rfl⟩
  rw [hp] at HR0
  obtain ⟨kind, oa, ob, oc, s, t, la, ln, lc, list, ra, rn, rc, recs⟩ := o
  have e0 : (opCells ⟨kind, oa, ob, oc, s, t, la, ln, lc, list, ra, rn, rc, recs⟩).toArray = #[.int .i64 kind, .int .i64 oa, .int .i64 ob, .int .i64 oc, .string s, .string t, .slice la ln lc, .slice ra rn rc] := rfl
  have HCl : Hid (∀ {S'} {wx : World}, Ms w mB p ⟨kind, oa, ob, oc, s, t, la, ln, lc, list, ra, rn, rc, recs⟩ S' wx → wx.cell? ⟨p, 0, none⟩ = some (.int .i64 kind) ∧ wx.cell? ⟨p, 1, none⟩ = some (.int .i64 oa) ∧ wx.cell? ⟨p, 2, none⟩ = some (.int .i64 ob) ∧ wx.cell? ⟨p, 3, none⟩ = some (.int .i64 oc) ∧ wx.cell? ⟨p, 4, none⟩ = some (.string s) ∧ wx.cell? ⟨p, 5, none⟩ = some (.string t) ∧ wx.cell? ⟨p, 6, none⟩ = some (.slice la ln lc) ∧ wx.cell? ⟨p, 7, none⟩ = some (.slice ra rn rc)) := hid (fun h => ⟨h.ob.cell 0, h.ob.cell 1, h.ob.cell 2, h.ob.cell 3, h.ob.cell 4, h.ob.cell 5, h.ob.cell 6, h.ob.cell 7⟩)
  rw [e0] at HR0 HB0
  rw [show (opCells _).toArray = _ from e0]
  dsimp only at hk hok ⊢
  have k0 : (kind == 0) = false := by rw [hk]; rfl
  have k1 : (kind == 1) = false := by rw [hk]; rfl
  have k2 : (kind == 2) = false := by rw [hk]; rfl
  have k3 : (kind == 3) = false := by rw [hk]; rfl
  have k4 : (kind == 4) = false := by rw [hk]; rfl
  have k5 : (kind == 5) = false := by rw [hk]; rfl
  have k6 : (kind == 6) = false := by rw [hk]; rfl
  have k7 : (kind == 7) = false := by rw [hk]; rfl
  have k8 : (kind == 8) = false := by rw [hk]; rfl
  have k9 : (kind == 9) = false := by rw [hk]; rfl
  have k10 : (kind == 10) = false := by rw [hk]; rfl
  have k11 : (kind == 11) = false := by rw [hk]; rfl
  have k12 : (kind == 12) = false := by rw [hk]; rfl
  have k13 : (kind == 13) = false := by rw [hk]; rfl
  have k14 : (kind == 14) = false := by rw [hk]; rfl
  have k15 : (kind == 15) = false := by rw [hk]; rfl
  have k16 : (kind == 16) = false := by rw [hk]; rfl
  have k17 : (kind == 17) = true := by rw [hk]; rfl
  clear hok e0 h
  clear hk
  go_enter Tryd.func10, Tryd.ntmps10
  go_upto_region 1 with fail
  generalize hwr : ((w.alloc (Obj.cells #[.int .i64 kind, .int .i64 oa, .int .i64 ob, .int .i64 oc, .string s, .string t, .slice la ln lc, .slice ra rn rc] 36)).alloc (Obj.cells #[.int .i64 0, .bool false, .int .i64 0, .int .i64 0, .string ⟨#[]⟩, .slice none 0 0, .slice none 0 0] 39)) = wr at HR0 HB0 ⊢
  clear hwr hp
  obtain ⟨x0, x1, x2, x3, x4, x5, x6, x7⟩ := HCl.out HR0.out
  obtain ⟨bs, lim, ⟨ec, el, ek⟩⟩ := S
  have c0 : wr.cell? ⟨mB, 0, none⟩ = some (.string (bsA bs)) := (st_cells HR0.out.mb).1
  have f0 : wr.frozen? ⟨mB, 0, none⟩ = false := HR0.out.mb.frozen _
  have HN : Hid (Ms w mB p ⟨kind, oa, ob, oc, s, t, la, ln, lc, list, ra, rn, rc, recs⟩ ⟨[], lim, ⟨ec, el, ek⟩⟩ (wr.setCell ⟨mB, 0, none⟩ (.string ⟨#[]⟩))) := hid (HR0.out.set rfl)
  go_upto_region 42 with fail
  generalize hw2 : wr.setCell ⟨mB, 0, none⟩ (.string ⟨#[]⟩) = w2 at HN ⊢
  clear hw2 c0 f0 HR0 x0 x1 x2 x3 x4 x5 x6 x7
  have HSh := hid (mshow_walk HN.out.mb (by simp) 0)
  go_wp2_with fail
  refine HSh.out.mono ?_
  rintro e8 w8 ⟨rfl, hb8⟩
  have HR8 := hid (HN.out.below hb8)
  clear hb8 HSh HN
  go_wp2_with (refine wpList_store_blk rfl 39 _ _ rfl (p + 1) rfl (ouC (shO ⟨[], lim, ⟨ec, el, ek⟩⟩ 0).c (shO ⟨[], lim, ⟨ec, el, ek⟩⟩ 0).f (shO ⟨[], lim, ⟨ec, el, ek⟩⟩ 0).i (shO ⟨[], lim, ⟨ec, el, ek⟩⟩ 0).j (shO ⟨[], lim, ⟨ec, el, ek⟩⟩ 0).s nilV nilV) rfl HR8.out.ou rfl I0.out (ou_one _ _ _ _ _ _ _ _ _ _ _) ?_; intro w9 HB9 HU9)
  exact bodyPost_ret (results_blk (cs := ouC (shO ⟨[], lim, ⟨ec, el, ek⟩⟩ 0).c (shO ⟨[], lim, ⟨ec, el, ek⟩⟩ 0).f (shO ⟨[], lim, ⟨ec, el, ek⟩⟩ 0).i (shO ⟨[], lim, ⟨ec, el, ek⟩⟩ 0).j (shO ⟨[], lim, ⟨ec, el, ek⟩⟩ 0).s nilV nilV) Tryd.results10 rfl aggOu HB9.out) rfl (HR8.out.fin (O := shO ⟨[], lim, ⟨ec, el, ek⟩⟩ 0) rfl rfl HU9.out)
theorem mstep18_walk (h : Blk w mB 31 (stC S)) (o : TOp) (hok : OpOk w o) (hk : o.kind = 18) (hbl : S.bs.length ≤ 68719476736) : Calls Tryd.prog 10 #[.pointer (some ⟨mB, 0, none⟩), .agg (opCells o).toArray] w fun e w' => MsP w mB (atO S o.a) (S) e w' := by
  have HR0 := hid (Ms.new h o)
  have HB0 := hid (Rs.newB w o)
  have I0 := hid info_ou
  have HOk := hid hok
  obtain ⟨p, hp⟩ : ∃ p, w.heap.size = p := ⟨_, rfl⟩
  rw [hp] at HR0
  obtain ⟨kind, oa, ob, oc, s, t, la, ln, lc, list, ra, rn, rc, recs⟩ := o
  have e0 : (opCells ⟨kind, oa, ob, oc, s, t, la, ln, lc, list, ra, rn, rc, recs⟩).toArray = #[.int .i64 kind, .int .i64 oa, .int .i64 ob, .int .i64 oc, .string s, .string t, .slice la ln lc, .slice ra rn rc] := rfl
  have HCl : Hid (∀ {S'} {wx : World}, Ms w mB p ⟨kind, oa, ob, oc, s, t, la, ln, lc, list, ra, rn, rc, recs⟩ S' wx → wx.cell? ⟨p, 0, none⟩ = some (.int .i64 kind) ∧ wx.cell? ⟨p, 1, none⟩ = some (.int .i64 oa) ∧ wx.cell? ⟨p, 2, none⟩ = some (.int .i64 ob) ∧ wx.cell? ⟨p, 3, none⟩ = some (.int .i64 oc) ∧ wx.cell? ⟨p, 4, none⟩ = some (.string s) ∧ wx.cell? ⟨p, 5, none⟩ = some (.string t) ∧ wx.cell? ⟨p, 6, none⟩ = some (.slice la ln lc) ∧ wx.cell? ⟨p, 7, none⟩ = some (.slice ra rn rc)) := hid (fun h => ⟨h.ob.cell 0, h.ob.cell 1, h.ob.cell 2, h.ob.cell 3, h.ob.cell 4, h.ob.cell 5, h.ob.cell 6, h.ob.cell 7⟩)
  rw [e0] at HR0 HB0
  rw [show (opCells _).toArray = _ from e0]
  dsimp only at hk hok ⊢
  have k0 : (kind == 0) = false := by rw [hk]; rfl
  have k1 : (kind == 1) = false := by rw [hk]; rfl
  have k2 : (kind == 2) = false := by rw [hk]; rfl
  have k3 : (kind == 3) = false := by rw [hk]; rfl
  have k4 : (kind == 4) = false := by rw [hk]; rfl
  have k5 : (kind == 5) = false := by rw [hk]; rfl
  have k6 : (kind == 6) = false := by rw [hk]; rfl
  have k7 : (kind == 7) = false := by rw [hk]; rfl
  have k8 : (kind == 8) = false := by rw [hk]; rfl
  have k9 : (kind == 9) = false := by rw [hk]; rfl
  have k10 : (kind == 10) = false := by rw [hk]; rfl
  have k11 : (kind == 11) = false := by rw [hk]; rfl
  have k12 : (kind == 12) = false := by rw [hk]; rfl
  have k13 : (kind == 13) = false := by rw [hk]; rfl
  have k14 : (kind == 14) = false := by rw [hk]; rfl
  have k15 : (kind == 15) = false := by rw [hk]; rfl
  have k16 : (kind == 16) = false := by rw [hk]; rfl
  have k17 : (kind == 17) = false := by rw [hk]; rfl
  have k18 : (kind == 18) = true := by rw [hk]; rfl
  clear hok e0 h
  clear hk
  go_enter Tryd.func10, Tryd.ntmps10
  go_upto_region 1 with fail
  generalize hwr : ((w.alloc (Obj.cells #[.int .i64 kind, .int .i64 oa, .int .i64 ob, .int .i64 oc, .string s, .string t, .slice la ln lc, .slice ra rn rc] 36)).alloc (Obj.cells #[.int .i64 0, .bool false, .int .i64 0, .int .i64 0, .string ⟨#[]⟩, .slice none 0 0, .slice none 0 0] 39)) = wr at HR0 HB0 ⊢
  clear hwr hp
  obtain ⟨x0, x1, x2, x3, x4, x5, x6, x7⟩ := HCl.out HR0.out
  obtain ⟨bs, lim, er⟩ := S
  obtain ⟨st, hst⟩ : ∃ s, bsA bs = s := ⟨_, rfl⟩
  have Hst := hid hst
  have hsz : st.size = bs.length := by rw [← hst]; rfl
  obtain ⟨n0, hn0⟩ : ∃ n, bs.length = n := ⟨_, rfl⟩
  rw [hn0] at hsz
  have Hn0 := hid hn0
  have hbn : n0 ≤ 68719476736 := by rw [← hn0]; exact hbl
  have hbn2 : (n0 : Int) ≤ 68719476736 := by omega
  have ha1 : -9223372036854775808 ≤ oa := HOk.out.fa.1
  have ha2 : oa ≤ 9223372036854775807 := HOk.out.fa.2
  obtain ⟨b3, hb3⟩ : ∃ b, (!(decide (0 ≤ oa ∧ oa < (n0 : Int)))) = b := ⟨_, rfl⟩
  have Hb3 := hid hb3
  clear hst hb3 hn0 hbl
  go_upto_region 44 with fail
  go_cut [185] from 173 to 185 (fun v wc => v = .bool b3 ∧ Hid (Ms w mB p ⟨kind, oa, ob, oc, s, t, la, ln, lc, list, ra, rn, rc, recs⟩ ⟨bs, lim, er⟩ wc))
  case first =>
    obtain ⟨X, W, HTT, H0, hne, HC⟩ := class_below wr
    have HX : Hid (∀ y, Ms w mB p ⟨kind, oa, ob, oc, s, t, la, ln, lc, list, ra, rn, rc, recs⟩ ⟨bs, lim, er⟩ (W y)) := hid (fun y => HR0.out.below (HTT.out y))
    have a1 : ∀ y, (W y).cell? ⟨mB, 0, none⟩ = some (.string st) := fun y => by rw [← Hst.out]; exact (st_cells (HX.out y).mb).1
    have a2 : ∀ y, (W y).cell? ⟨p, 1, none⟩ = some (.int .i64 oa) := fun y => (HCl.out (HX.out y)).2.1
    refine wp_region_class W (by kernel_rfl) (by kernel_rfl) H0.out ?_
    by_cases h0 : oa < 0
    · have d0 : decide (oa < 0) = true := decide_eq_true h0
      have HE : Hid (true = b3) := hid (by rw [← Hb3.out]; simp; omega)
      clear h0
      repeat (go_big_quiet_step (fail))
      refine wpQuiet_nil ?_
      intro z
      have HZ := hid (HX.out z)
      generalize W z = wz at HZ ⊢
      clear a1 a2 H0 HTT HC hne HX HR0
      go_wp2
      go_meet
      exact ⟨by rw [HE.out], HZ⟩
    · have d0 : decide (oa < 0) = false := decide_eq_false h0
      obtain ⟨bq, hbq⟩ : ∃ b, decide ((n0 : Int) ≤ oa) = b := ⟨_, rfl⟩
      have hbq2 : decide (oa ≥ (n0 : Int)) = bq := hbq
      have HE : Hid (bq = b3) := hid (by
        rw [← Hb3.out, ← hbq, ← decide_not]
        exact decide_eq_decide.2 (by omega))
      clear h0
      repeat (go_big_quiet_step (fail))
      refine wpQuiet_nil ?_
      intro z
      have HZ := hid (HX.out z)
      generalize W z = wz at HZ ⊢
      clear a1 a2 H0 HTT HC hne HX HR0
      go_wp2
      go_meet
      exact ⟨by rw [HE.out], HZ⟩
  case rest =>
    obtain ⟨rfl, HM⟩ := hcut
    clear HR0 x0 x1 x2 x3 x4 x5 x6 x7
    cases b3 with
    | true =>
      have HE : Hid (atO ⟨bs, lim, er⟩ oa = { oz with c := 6 }) := hid (by
        have h1 : ¬ (0 ≤ oa ∧ oa < (n0 : Int)) := by have h2 := Hb3.out; simp at h2; omega
        unfold atO
        dsimp only
        rw [Hn0.out, if_neg h1])
      go_wp2_with (refine wpList_store_blk rfl 39 _ _ rfl (p + 1) rfl (ouC 6 false 0 0 ByteArray.empty nilV nilV) rfl HM.out.ou rfl I0.out (ou_one _ _ _ _ _ _ _ _ _ _ _) ?_; intro w9 HB9 HU9)
      exact bodyPost_ret (results_blk (cs := ouC 6 false 0 0 ByteArray.empty nilV nilV) Tryd.results10 rfl aggOu HB9.out) rfl (by rw [HE.out]; exact HM.out.fin rfl rfl HU9.out)
    | false =>
      have hin : 0 ≤ oa ∧ oa < (n0 : Int) := by simpa using Hb3.out
      obtain ⟨n, hn⟩ : ∃ n : Nat, oa = (n : Int) := ⟨oa.toNat, by omega⟩
      have ki : n < st.size := by omega
      have HE : Hid (atO ⟨bs, lim, er⟩ oa = { oz with i := (st[n].toNat : Int) }) := hid (by
        subst hn
        unfold atO
        dsimp only
        rw [Hn0.out, if_pos hin, Int.toNat_natCast]
        have h0 := Hst.out
        subst h0
        rw [bsA_get])
      have hni : (n : Int) < (n0 : Int) := by omega
      have hb9 := st[n].toNat_lt
      have hb10 : (st[n].toNat : Int) < 256 := by omega
      subst hn
      clear hin
      go_upto_region 46 with fail
      obtain ⟨X, W, HTT, H0, hne, HC⟩ := class_below wc
      have HX : Hid (∀ y, Ms w mB p ⟨kind, (n : Int), ob, oc, s, t, la, ln, lc, list, ra, rn, rc, recs⟩ ⟨bs, lim, er⟩ (W y)) := hid (fun y => HM.out.below (HTT.out y))
      have a1 : ∀ y, (W y).cell? ⟨mB, 0, none⟩ = some (.string st) := fun y => by rw [← Hst.out]; exact (st_cells (HX.out y).mb).1
      have a2 : ∀ y, (W y).cell? ⟨p, 1, none⟩ = some (.int .i64 (n : Int)) := fun y => (HCl.out (HX.out y)).2.1
      refine wp_region_class_tailT W 9 (by kernel_rfl) (by kernel_rfl) (by kernel_rfl) H0.out ?_
      dsimp only [List.take]
      repeat (go_big_quiet_step (fail))
      refine wpQuiet_nil ?_
      intro z
      have HZ := hid (HX.out z)
      generalize W z = wz at HZ ⊢
      clear a1 a2 H0 HTT HC hne HX HM
      dsimp only [List.drop]
      refine wpList_store_blk rfl 39 _ _ rfl (p + 1) rfl (ouC 0 false (st[n].toNat : Int) 0 ByteArray.empty nilV nilV) rfl HZ.out.ou rfl I0.out (ou_one _ _ _ _ _ _ _ _ _ _ _) ?_
      intro w9 HB9 HU9
      go_wp2
      exact bodyPost_ret (results_blk (cs := ouC 0 false (st[n].toNat : Int) 0 ByteArray.empty nilV nilV) Tryd.results10 rfl aggOu HB9.out) rfl (by rw [HE.out]; exact HZ.out.fin rfl rfl HU9.out)
end
end Go.Proofs.Qxb6500890aDoor
