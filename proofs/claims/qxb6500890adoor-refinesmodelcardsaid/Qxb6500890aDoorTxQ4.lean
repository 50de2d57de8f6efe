/- The model's step: kinds 19 to 22 and the others. Written by tools/mk_txq.py. -/
import Derived.Test.Qxb6500890aDoorTxQ3
namespace Go.Proofs.Qxb6500890aDoor
open Go.RowKit
set_option linter.unusedSimpArgs false
set_option linter.unusedVariables false

section
variable {w wr w' : World} {mB p : Nat} {S S' : TS} {o : TOp}
theorem Ms.note {e : Er} (h : Ms w mB p o S wr) : Ms w mB p o { S with er := e } (((wr.setCell ⟨mB, 2, none⟩ (.int .i64 e.c)).setCell ⟨mB, 3, none⟩ (.int .i64 e.l)).setCell ⟨mB, 4, none⟩ (.int .i64 e.k)) := h.next (((h.mb.set 2 (.int .i64 e.c)).set 3 (.int .i64 e.l)).set 4 (.int .i64 e.k)) ((((Upd.refl mB wr).setCell rfl _).setCell rfl _).setCell rfl _)
theorem first_0 {a b : Er} (h0 : b.c = 0) : a = firstE a b := by unfold firstE; rw [if_pos h0]
theorem first_1 {a b : Er} (h0 : ¬ b.c = 0) (h1 : a.c = 0) : b = firstE a b := by unfold firstE; rw [if_neg h0, if_pos h1]
theorem first_lt {a b : Er} (h0 : ¬ b.c = 0) (h1 : ¬ a.c = 0) (h2 : b.l < a.l) : b = firstE a b := by
  have e : befE b a = true := by unfold befE; rw [if_pos (by omega)]; exact decide_eq_true h2
  unfold firstE
  rw [if_neg h0, if_neg h1, e, if_pos rfl]
theorem first_el {a b : Er} (h0 : ¬ b.c = 0) (h1 : ¬ a.c = 0) (h2 : b.l = a.l) (h3 : b.k < a.k) : b = firstE a b := by
  have e : befE b a = true := by unfold befE; rw [if_neg (by omega)]; exact decide_eq_true h3
  unfold firstE
  rw [if_neg h0, if_neg h1, e, if_pos rfl]
theorem first_eg {a b : Er} (h0 : ¬ b.c = 0) (h1 : ¬ a.c = 0) (h2 : b.l = a.l) (h3 : ¬ b.k < a.k) : a = firstE a b := by
  have e : befE b a = false := by unfold befE; rw [if_neg (by omega)]; exact decide_eq_false h3
  unfold firstE
  rw [if_neg h0, if_neg h1, e, if_neg (by simp)]
theorem first_gt {a b : Er} (h0 : ¬ b.c = 0) (h1 : ¬ a.c = 0) (h2 : ¬ b.l < a.l) (h3 : ¬ b.l = a.l) : a = firstE a b := by
  have e : befE b a = false := by unfold befE; rw [if_pos h3]; exact decide_eq_false h2
  unfold firstE
  rw [if_neg h0, if_neg h1, e, if_neg (by simp)]
theorem desc_str (l c : Int) (nm : ByteArray) : ((bsA (fmtL l) ++ ⟨#[58]⟩) ++ bsA (fmtL c)) ++ ⟨#[58, 32]⟩ ++ nm = bsA ((((fmtL l ++ [58]) ++ fmtL c) ++ [58, 32]) ++ nm.data.toList) := by
  apply ByteArray.ext
  simp only [ByteArray.data_append]
  simp [bsA]
set_option maxRecDepth 100000
set_option maxHeartbeats 2000000
theorem mstep19_walk (h : Blk w mB 31 (stC S)) (o : TOp) (hok : OpOk w o) (hk : o.kind = 19) (hs : o.s.size ≤ 65536) : Calls Tryd.prog 10 #[.pointer (some ⟨mB, 0, none⟩), .agg (opCells o).toArray] w fun e w' => MsP w mB (plcO o.s o.a) (S) e w' := by
  have HR0 := hid (Ms.new h o)
  have HB0 := hid (Rs.newB w o)
  have I0 := hid info_ou
  have HOk := hid hok
  obtain ⟨p, hp⟩ : ∃ p, w.heap.size = p := ⟨_, rfl⟩
  rw [hp] at HR0
  obtain ⟨kind, oa, ob, oc, s, t, la, ln, lc, list, ra, rn, rc, recs⟩ := o
  have e0 : (opCells ⟨kind, oa, ob, oc, s, t, la, ln, lc, list, ra, rn, rc, recs⟩).toArray = #[.int .i64 kind, .int .i64 oa, .int .i64 ob, .int .i64 oc, .string s, .string t, .slice la ln lc, .slice ra rn rc] := rfl
  have HCl : Hid (∀ {S'} {wx : World}, Ms w mB p ⟨kind, oa, ob, oc, s, t, la, ln, lc, list, ra, rn, rc, recs⟩ S' wx → wx.cell? ⟨p, 0, none⟩ = some (.int .i64 kind) ∧ wx.cell? ⟨p, 1, none⟩ = some (.int .i64 oa) ∧ wx.cell? ⟨p, 2, none⟩ = some (.int .i64 ob) ∧ wx.cell? ⟨p, 3, none⟩ = some (.int .i64 oc) ∧ wx.cell? ⟨p, 4, none⟩ = some (.string s) ∧ wx.cell? ⟨p, 5, none⟩ = some (.string t) ∧ wx.cell? ⟨p, 6, none⟩ = some (.slice la ln lc) ∧ wx.cell? ⟨p, 7, none⟩ = some (.slice ra rn rc)) := hid (fun h => ⟨h.ob.cell 0, h.ob.cell 1, h.ob.cell 2, h.ob.cell 3, h.ob.cell 4, h.ob.cell 5, h.ob.cell 6, h.ob.cell 7⟩)
  rw [e0] at HR0 HB0
  rw [show (opCells _).toArray = _ from e0]
  dsimp only at hk hok ⊢
  have k0 : (kind == 0) = false := by rw [hk]; rfl
  have k1 : (kind == 1) = false := by rw [hk]; rfl
  have k2 : (kind == 2) = false := by rw [hk]; rfl
  have k3 : (kind == 3) = false := by rw [hk]; rfl
  have k4 : (kind == 4) = false := by rw [hk]; rfl
  have k5 : (kind == 5) = false := by rw [hk]; rfl
  have k6 : (kind == 6) = false := by rw [hk]; rfl
  have k7 : (kind == 7) = false := by rw [hk]; rfl
  have k8 : (kind == 8) = false := by rw [hk]; rfl
  have k9 : (kind == 9) = false := by rw [hk]; rfl
  have k10 : (kind == 10) = false := by rw [hk]; rfl
  have k11 : (kind == 11) = false := by rw [hk]; rfl
  have k12 : (kind == 12) = false := by rw [hk]; rfl
  have k13 : (kind == 13) = false := by rw [hk]; rfl
  have k14 : (kind == 14) = false := by rw [hk]; rfl
  have k15 : (kind == 15) = false := by rw [hk]; rfl
  have k16 : (kind == 16) = false := by rw [hk]; rfl
  have k17 : (kind == 17) = false := by rw [hk]; rfl
  have k18 : (kind == 18) = false := by rw [hk]; rfl
  have k19 : (kind == 19) = true := by rw [hk]; rfl
  clear hok e0 h
  clear hk
  go_enter Tryd.func10, Tryd.ntmps10
  go_upto_region 1 with fail
  generalize hwr : ((w.alloc (Obj.cells #[.int .i64 kind, .int .i64 oa, .int .i64 ob, .int .i64 oc, .string s, .string t, .slice la ln lc, .slice ra rn rc] 36)).alloc (Obj.cells #[.int .i64 0, .bool false, .int .i64 0, .int .i64 0, .string ⟨#[]⟩, .slice none 0 0, .slice none 0 0] 39)) = wr at HR0 HB0 ⊢
  clear hwr hp
  obtain ⟨x0, x1, x2, x3, x4, x5, x6, x7⟩ := HCl.out HR0.out
  have hs : s.size ≤ 65536 := hs
  have HF := hid (mplace_walk s (by omega) oa HOk.out.fa)
  obtain ⟨pl, hpl⟩ : ∃ x, plcP s oa = x := ⟨_, rfl⟩
  rw [show placeP (s.data.toList.take (min oa.toNat s.size)) = pl from hpl] at HF
  obtain ⟨l1, l2⟩ := pl
  have Hpl := hid hpl
  rw [show plV (l1, l2) = .tuple #[.int .i64 (l1 : Int), .int .i64 (l2 : Int)] from rfl] at HF
  clear hpl
  go_wp2_with fail
  refine (HF.out _).mono ?_
  rintro e1 w1 ⟨rfl, hb1⟩
  have HR1 := hid (HR0.out.below hb1)
  clear HF HR0 hb1 x0 x1 x2 x3 x4 x5 x6 x7
  go_wp2_with (refine wpList_store_blk rfl 39 _ _ rfl (p + 1) rfl (ouC 0 false (l1 : Int) (l2 : Int) ByteArray.empty nilV nilV) rfl HR1.out.ou rfl I0.out (ou_one _ _ _ _ _ _ _ _ _ _ _) ?_; intro w9 HB9 HU9)
  exact bodyPost_ret (results_blk (cs := ouC 0 false (l1 : Int) (l2 : Int) ByteArray.empty nilV nilV) Tryd.results10 rfl aggOu HB9.out) rfl (by
    have h := HR1.out.fin (O := plcO s oa) rfl rfl HU9.out
    unfold plcO at h ⊢
    rw [Hpl.out] at h ⊢
    exact h)
theorem mstep20_walk (h : Blk w mB 31 (stC S)) (o : TOp) (hok : OpOk w o) (hk : o.kind = 20) (hs : o.s.size ≤ 65536) : Calls Tryd.prog 10 #[.pointer (some ⟨mB, 0, none⟩), .agg (opCells o).toArray] w fun e w' => MsP w mB (plcO o.s o.a) (S) e w' := by
  have HR0 := hid (Ms.new h o)
  have HB0 := hid (Rs.newB w o)
  have I0 := hid info_ou
  have HOk := hid hok
  obtain ⟨p, hp⟩ : ∃ p, w.heap.size = p := ⟨_, rfl⟩
  rw [hp] at HR0
  obtain ⟨kind, oa, ob, oc, s, t, la, ln, lc, list, ra, rn, rc, recs⟩ := o
  have e0 : (opCells ⟨kind, oa, ob, oc, s, t, la, ln, lc, list, ra, rn, rc, recs⟩).toArray = #[.int .i64 kind, .int .i64 oa, .int .i64 ob, .int .i64 oc, .string s, .string t, .slice la ln lc, .slice ra rn rc] := rfl
  have HCl : Hid (∀ {S'} {wx : World}, Ms w mB p ⟨kind, oa, ob, oc, s, t, la, ln, lc, list, ra, rn, rc, recs⟩ S' wx → wx.cell? ⟨p, 0, none⟩ = some (.int .i64 kind) ∧ wx.cell? ⟨p, 1, none⟩ = some (.int .i64 oa) ∧ wx.cell? ⟨p, 2, none⟩ = some (.int .i64 ob) ∧ wx.cell? ⟨p, 3, none⟩ = some (.int .i64 oc) ∧ wx.cell? ⟨p, 4, none⟩ = some (.string s) ∧ wx.cell? ⟨p, 5, none⟩ = some (.string t) ∧ wx.cell? ⟨p, 6, none⟩ = some (.slice la ln lc) ∧ wx.cell? ⟨p, 7, none⟩ = some (.slice ra rn rc)) := hid (fun h => ⟨h.ob.cell 0, h.ob.cell 1, h.ob.cell 2, h.ob.cell 3, h.ob.cell 4, h.ob.cell 5, h.ob.cell 6, h.ob.cell 7⟩)
  rw [e0] at HR0 HB0
  rw [show (opCells _).toArray = _ from e0]
  dsimp only at hk hok ⊢
  have k0 : (kind == 0) = false := by rw [hk]; rfl
  have k1 : (kind == 1) = false := by rw [hk]; rfl
  have k2 : (kind == 2) = false := by rw [hk]; rfl
  have k3 : (kind == 3) = false := by rw [hk]; rfl
  have k4 : (kind == 4) = false := by rw [hk]; rfl
  have k5 : (kind == 5) = false := by rw [hk]; rfl
  have k6 : (kind == 6) = false := by rw [hk]; rfl
  have k7 : (kind == 7) = false := by rw [hk]; rfl
  have k8 : (kind == 8) = false := by rw [hk]; rfl
  have k9 : (kind == 9) = false := by rw [hk]; rfl
  have k10 : (kind == 10) = false := by rw [hk]; rfl
  have k11 : (kind == 11) = false := by rw [hk]; rfl
  have k12 : (kind == 12) = false := by rw [hk]; rfl
  have k13 : (kind == 13) = false := by rw [hk]; rfl
  have k14 : (kind == 14) = false := by rw [hk]; rfl
  have k15 : (kind == 15) = false := by rw [hk]; rfl
  have k16 : (kind == 16) = false := by rw [hk]; rfl
  have k17 : (kind == 17) = false := by rw [hk]; rfl
  have k18 : (kind == 18) = false := by rw [hk]; rfl
  have k19 : (kind == 19) = false := by rw [hk]; rfl
  have k20 : (kind == 20) = true := by rw [hk]; rfl
  clear hok e0 h
  clear hk
  go_enter Tryd.func10, Tryd.ntmps10
  go_upto_region 1 with fail
  generalize hwr : ((w.alloc (Obj.cells #[.int .i64 kind, .int .i64 oa, .int .i64 ob, .int .i64 oc, .string s, .string t, .slice la ln lc, .slice ra rn rc] 36)).alloc (Obj.cells #[.int .i64 0, .bool false, .int .i64 0, .int .i64 0, .string ⟨#[]⟩, .slice none 0 0, .slice none 0 0] 39)) = wr at HR0 HB0 ⊢
  clear hwr hp
  obtain ⟨x0, x1, x2, x3, x4, x5, x6, x7⟩ := HCl.out HR0.out
  have hs : s.size ≤ 65536 := hs
  have HF := hid (mplace_walk s (by omega) oa HOk.out.fa)
  obtain ⟨pl, hpl⟩ : ∃ x, plcP s oa = x := ⟨_, rfl⟩
  rw [show placeP (s.data.toList.take (min oa.toNat s.size)) = pl from hpl] at HF
  obtain ⟨l1, l2⟩ := pl
  have Hpl := hid hpl
  rw [show plV (l1, l2) = .tuple #[.int .i64 (l1 : Int), .int .i64 (l2 : Int)] from rfl] at HF
  clear hpl
  go_wp2_with fail
  refine (HF.out _).mono ?_
  rintro e1 w1 ⟨rfl, hb1⟩
  have HR1 := hid (HR0.out.below hb1)
  clear HF HR0 hb1 x0 x1 x2 x3 x4 x5 x6 x7
  go_wp2_with (refine wpList_store_blk rfl 39 _ _ rfl (p + 1) rfl (ouC 0 false (l1 : Int) (l2 : Int) ByteArray.empty nilV nilV) rfl HR1.out.ou rfl I0.out (ou_one _ _ _ _ _ _ _ _ _ _ _) ?_; intro w9 HB9 HU9)
  exact bodyPost_ret (results_blk (cs := ouC 0 false (l1 : Int) (l2 : Int) ByteArray.empty nilV nilV) Tryd.results10 rfl aggOu HB9.out) rfl (by
    have h := HR1.out.fin (O := plcO s oa) rfl rfl HU9.out
    unfold plcO at h ⊢
    rw [Hpl.out] at h ⊢
    exact h)
theorem mstep21_walk (h : Blk w mB 31 (stC S)) (o : TOp) (hok : OpOk w o) (hk : o.kind = 21) : Calls Tryd.prog 10 #[.pointer (some ⟨mB, 0, none⟩), .agg (opCells o).toArray] w fun e w' => MsP w mB ({ oz with s := bsA (descP ⟨o.a, o.b, o.c⟩) }) (S) e w' := by
  have HR0 := hid (Ms.new h o)
  have HB0 := hid (Rs.newB w o)
  have I0 := hid info_ou
  have HOk := hid hok
  obtain ⟨p, hp⟩ : ∃ p, w.heap.size = p := ⟨_, rfl⟩
  rw [hp] at HR0
  obtain ⟨kind, oa, ob, oc, s, t, la, ln, lc, list, ra, rn, rc, recs⟩ := o
  have e0 : (opCells ⟨kind, oa, ob, oc, s, t, la, ln, lc, list, ra, rn, rc, recs⟩).toArray = #[.int .i64 kind, .int .i64 oa, .int .i64 ob, .int .i64 oc, .string s, .string t, .slice la ln lc, .slice ra rn rc] := rfl
  have HCl : Hid (∀ {S'} {wx : World}, Ms w mB p ⟨kind, oa, ob, oc, s, t, la, ln, lc, list, ra, rn, rc, recs⟩ S' wx → wx.cell? ⟨p, 0, none⟩ = some (.int .i64 kind) ∧ wx.cell? ⟨p, 1, none⟩ = some (.int .i64 oa) ∧ wx.cell? ⟨p, 2, none⟩ = some (.int .i64 ob) ∧ wx.cell? ⟨p, 3, none⟩ = some (.int .i64 oc) ∧ wx.cell? ⟨p, 4, none⟩ = some (.string s) ∧ wx.cell? ⟨p, 5, none⟩ = some (.string t) ∧ wx.cell? ⟨p, 6, none⟩ = some (.slice la ln lc) ∧ wx.cell? ⟨p, 7, none⟩ = some (.slice ra rn rc)) := hid (fun h => ⟨h.ob.cell 0, h.ob.cell 1, h.ob.cell 2, h.ob.cell 3, h.ob.cell 4, h.ob.cell 5, h.ob.cell 6, h.ob.cell 7⟩)
  rw [e0] at HR0 HB0
  rw [show (opCells _).toArray = _ from e0]
  dsimp only at hk hok ⊢
  have k0 : (kind == 0) = false := by rw [hk]; rfl
  have k1 : (kind == 1) = false := by rw [hk]; rfl
  have k2 : (kind == 2) = false := by rw [hk]; rfl
  have k3 : (kind == 3) = false := by rw [hk]; rfl
  have k4 : (kind == 4) = false := by rw [hk]; rfl
  have k5 : (kind == 5) = false := by rw [hk]; rfl
  have k6 : (kind == 6) = false := by rw [hk]; rfl
  have k7 : (kind == 7) = false := by rw [hk]; rfl
  have k8 : (kind == 8) = false := by rw [hk]; rfl
  have k9 : (kind == 9) = false := by rw [hk]; rfl
  have k10 : (kind == 10) = false := by rw [hk]; rfl
  have k11 : (kind == 11) = false := by rw [hk]; rfl
  have k12 : (kind == 12) = false := by rw [hk]; rfl
  have k13 : (kind == 13) = false := by rw [hk]; rfl
  have k14 : (kind == 14) = false := by rw [hk]; rfl
  have k15 : (kind == 15) = false := by rw [hk]; rfl
  have k16 : (kind == 16) = false := by rw [hk]; rfl
  have k17 : (kind == 17) = false := by rw [hk]; rfl
  have k18 : (kind == 18) = false := by rw [hk]; rfl
  have k19 : (kind == 19) = false := by rw [hk]; rfl
  have k20 : (kind == 20) = false := by rw [hk]; rfl
  have k21 : (kind == 21) = true := by rw [hk]; rfl
  clear hok e0 h
  clear hk
  go_enter Tryd.func10, Tryd.ntmps10
  go_upto_region 1 with fail
  generalize hwr : ((w.alloc (Obj.cells #[.int .i64 kind, .int .i64 oa, .int .i64 ob, .int .i64 oc, .string s, .string t, .slice la ln lc, .slice ra rn rc] 36)).alloc (Obj.cells #[.int .i64 0, .bool false, .int .i64 0, .int .i64 0, .string ⟨#[]⟩, .slice none 0 0, .slice none 0 0] 39)) = wr at HR0 HB0 ⊢
  clear hwr hp
  obtain ⟨x0, x1, x2, x3, x4, x5, x6, x7⟩ := HCl.out HR0.out
  have HF1 := hid (mformat_walk ob HOk.out.fb)
  have HF2 := hid (mformat_walk oc HOk.out.fc)
  have HF3 := hid (mname_walk oa HOk.out.fa)
  have z1 := fmt_len ob HOk.out.fb.1 HOk.out.fb.2
  have z2 := fmt_len oc HOk.out.fc.1 HOk.out.fc.2
  have z3 := nameP_size oa HOk.out.fa.1 HOk.out.fa.2
  obtain ⟨b1, hb1⟩ : ∃ x, bsA (fmtL ob) = x := ⟨_, rfl⟩
  obtain ⟨c1, hc1⟩ : ∃ x, bsA (fmtL oc) = x := ⟨_, rfl⟩
  obtain ⟨nm, hnm⟩ : ∃ x, nameP oa = x := ⟨_, rfl⟩
  have HDs := hid (desc_str ob oc nm)
  rw [hb1, hc1] at HDs
  rw [show (⟨(fmtL ob).toArray⟩ : ByteArray) = b1 from hb1] at HF1
  rw [show (⟨(fmtL oc).toArray⟩ : ByteArray) = c1 from hc1] at HF2
  rw [hnm] at HF3 z3
  have s1 : b1.size ≤ 20 := by rw [← hb1]; exact z1
  have s2 : c1.size ≤ 20 := by rw [← hc1]; exact z2
  obtain ⟨t1, ht1⟩ : ∃ x, b1 ++ ⟨#[58]⟩ = x := ⟨_, rfl⟩
  have s3 : t1.size ≤ 21 := by rw [← ht1, ByteArray.size_append]; show b1.size + 1 ≤ 21; omega
  obtain ⟨t2, ht2⟩ : ∃ x, t1 ++ c1 = x := ⟨_, rfl⟩
  have s4 : t2.size ≤ 41 := by rw [← ht2, ByteArray.size_append]; omega
  obtain ⟨t3, ht3⟩ : ∃ x, t2 ++ ⟨#[58, 32]⟩ = x := ⟨_, rfl⟩
  have s5 : t3.size ≤ 43 := by rw [← ht3, ByteArray.size_append]; show t2.size + 2 ≤ 43; omega
  obtain ⟨t4, ht4⟩ : ∃ x, t3 ++ nm = x := ⟨_, rfl⟩
  have HDe : Hid (bsA (descP ⟨oa, ob, oc⟩) = t4) := hid (by
    rw [← ht4, ← ht3, ← ht2, ← ht1, HDs.out, ← hnm]
    rfl)
  have q1 : ¬ (9223372036854775807 < b1.size + 1) := by omega
  have q2 : ¬ (9223372036854775807 < t1.size + c1.size) := by omega
  have q3 : ¬ (9223372036854775807 < t2.size + 2) := by omega
  have q4 : ¬ (9223372036854775807 < t3.size + nm.size) := by omega
  clear hb1 hc1 hnm z1 z2 z3 s1 s2 s3 s4 s5 HDs
  go_upto_region 52 with fail
  obtain ⟨X, W, HTT, H0, hne, HC⟩ := class_below wr
  have HX : Hid (∀ y, Ms w mB p ⟨kind, oa, ob, oc, s, t, la, ln, lc, list, ra, rn, rc, recs⟩ S (W y)) := hid (fun y => HR0.out.below (HTT.out y))
  have y2 : ∀ y, (W y).cell? ⟨p, 2, none⟩ = some (.int .i64 ob) := fun y => (HCl.out (HX.out y)).2.2.1
  have y3 : ∀ y, (W y).cell? ⟨p, 3, none⟩ = some (.int .i64 oc) := fun y => (HCl.out (HX.out y)).2.2.2.1
  refine wp_region_class W (by kernel_rfl) (by kernel_rfl) H0.out ?_
  repeat (go_big_quiet_step (fail))
  refine wpQuiet_nil ?_
  intro z
  have HZ := hid (HX.out z)
  generalize W z = wz at HZ ⊢
  clear y2 y3 H0 HTT HC hne HX HR0 x0 x1 x2 x3 x4 x5 x6 x7
  go_upto_region 53 with fail
  obtain ⟨X, W, HTT, H0, hne, HC⟩ := class_below wz
  have HX : Hid (∀ y, Ms w mB p ⟨kind, oa, ob, oc, s, t, la, ln, lc, list, ra, rn, rc, recs⟩ S (W y)) := hid (fun y => HZ.out.below (HTT.out y))
  have y1 : ∀ y, (W y).cell? ⟨p, 1, none⟩ = some (.int .i64 oa) := fun y => (HCl.out (HX.out y)).2.1
  refine wp_region_class_tailT W 12 (by kernel_rfl) (by kernel_rfl) (by kernel_rfl) H0.out ?_
  dsimp only [List.take]
  repeat (go_big_quiet_step (first | (go_at_call 40; first | with_reducible exact Calls.class_of HC.out (HF1.out _) | with_reducible exact Calls.class_of HC.out (HF2.out _)) | (go_at_call 50; exact Calls.class_of HC.out (HF3.out _))))
  refine wpQuiet_nil ?_
  intro z
  have HZ2 := hid (HX.out z)
  generalize W z = wy at HZ2 ⊢
  clear y1 H0 HTT HC hne HX HZ HF1 HF2 HF3
  dsimp only [List.drop]
  refine wpList_store_blk rfl 39 _ _ rfl (p + 1) rfl (ouC 0 false 0 0 t4 nilV nilV) rfl HZ2.out.ou rfl I0.out (ou_one _ _ _ _ _ _ _ _ _ _ _) ?_
  intro w9 HB9 HU9
  go_wp2
  exact bodyPost_ret (results_blk (cs := ouC 0 false 0 0 t4 nilV nilV) Tryd.results10 rfl aggOu HB9.out) rfl (by
    have h := HZ2.out.fin (O := { oz with s := bsA (descP ⟨oa, ob, oc⟩) }) rfl rfl HU9.out
    rw [HDe.out] at h ⊢
    exact h)
theorem mstep22_walk (h : Blk w mB 31 (stC S)) (o : TOp) (hok : OpOk w o) (hk : o.kind = 22) : Calls Tryd.prog 10 #[.pointer (some ⟨mB, 0, none⟩), .agg (opCells o).toArray] w fun e w' => MsP w mB (noteO (firstE S.er ⟨o.a, o.b, o.c⟩)) ({ S with er := firstE S.er ⟨o.a, o.b, o.c⟩ }) e w' := by
  have HR0 := hid (Ms.new h o)
  have HB0 := hid (Rs.newB w o)
  have I0 := hid info_ou
  have HOk := hid hok
  obtain ⟨p, hp⟩ : ∃ p, w.heap.size = p := ⟨_, rfl⟩
  rw [hp] at HR0
  obtain ⟨kind, oa, ob, oc, s, t, la, ln, lc, list, ra, rn, rc, recs⟩ := o
  have e0 : (opCells ⟨kind, oa, ob, oc, s, t, la, ln, lc, list, ra, rn, rc, recs⟩).toArray = #[.int .i64 kind, .int .i64 oa, .int .i64 ob, .int .i64 oc, .string s, .string t, .slice la ln lc, .slice ra rn rc] := rfl
  have HCl : Hid (∀ {S'} {wx : World}, Ms w mB p ⟨kind, oa, ob, oc, s, t, la, ln, lc, list, ra, rn, rc, recs⟩ S' wx → wx.cell? ⟨p, 0, none⟩ = some (.int .i64 kind) ∧ wx.cell? ⟨p, 1, none⟩ = some (.int .i64 oa) ∧ wx.cell? ⟨p, 2, none⟩ = some (.int .i64 ob) ∧ wx.cell? ⟨p, 3, none⟩ = some (.int .i64 oc) ∧ wx.cell? ⟨p, 4, none⟩ = some (.string s) ∧ wx.cell? ⟨p, 5, none⟩ = some (.string t) ∧ wx.cell? ⟨p, 6, none⟩ = some (.slice la ln lc) ∧ wx.cell? ⟨p, 7, none⟩ = some (.slice ra rn rc)) := hid (fun h => ⟨h.ob.cell 0, h.ob.cell 1, h.ob.cell 2, h.ob.cell 3, h.ob.cell 4, h.ob.cell 5, h.ob.cell 6, h.ob.cell 7⟩)
  rw [e0] at HR0 HB0
  rw [show (opCells _).toArray = _ from e0]
  dsimp only at hk hok ⊢
  have k0 : (kind == 0) = false := by rw [hk]; rfl
  have k1 : (kind == 1) = false := by rw [hk]; rfl
  have k2 : (kind == 2) = false := by rw [hk]; rfl
  have k3 : (kind == 3) = false := by rw [hk]; rfl
  have k4 : (kind == 4) = false := by rw [hk]; rfl
  have k5 : (kind == 5) = false := by rw [hk]; rfl
  have k6 : (kind == 6) = false := by rw [hk]; rfl
  have k7 : (kind == 7) = false := by rw [hk]; rfl
  have k8 : (kind == 8) = false := by rw [hk]; rfl
  have k9 : (kind == 9) = false := by rw [hk]; rfl
  have k10 : (kind == 10) = false := by rw [hk]; rfl
  have k11 : (kind == 11) = false := by rw [hk]; rfl
  have k12 : (kind == 12) = false := by rw [hk]; rfl
  have k13 : (kind == 13) = false := by rw [hk]; rfl
  have k14 : (kind == 14) = false := by rw [hk]; rfl
  have k15 : (kind == 15) = false := by rw [hk]; rfl
  have k16 : (kind == 16) = false := by rw [hk]; rfl
  have k17 : (kind == 17) = false := by rw [hk]; rfl
  have k18 : (kind == 18) = false := by rw [hk]; rfl
  have k19 : (kind == 19) = false := by rw [hk]; rfl
  have k20 : (kind == 20) = false := by rw [hk]; rfl
  have k21 : (kind == 21) = false := by rw [hk]; rfl
  have k22 : (kind == 22) = true := by rw [hk]; rfl
  clear hok e0 h
  clear hk
  go_enter Tryd.func10, Tryd.ntmps10
  go_upto_region 1 with fail
  generalize hwr : ((w.alloc (Obj.cells #[.int .i64 kind, .int .i64 oa, .int .i64 ob, .int .i64 oc, .string s, .string t, .slice la ln lc, .slice ra rn rc] 36)).alloc (Obj.cells #[.int .i64 0, .bool false, .int .i64 0, .int .i64 0, .string ⟨#[]⟩, .slice none 0 0, .slice none 0 0] 39)) = wr at HR0 HB0 ⊢
  clear hwr hp
  obtain ⟨x0, x1, x2, x3, x4, x5, x6, x7⟩ := HCl.out HR0.out
  obtain ⟨bs, lim, er⟩ := S
  obtain ⟨fe, hfe⟩ : ∃ x, firstE er ⟨oa, ob, oc⟩ = x := ⟨_, rfl⟩
  have Hfe := hid hfe
  clear hfe
  obtain ⟨ec, el, ek⟩ := er
  have c2 : wr.cell? ⟨mB, 2, none⟩ = some (.int .i64 ec) := (st_cells HR0.out.mb).2.2.1
  have c3 : wr.cell? ⟨mB, 3, none⟩ = some (.int .i64 el) := (st_cells HR0.out.mb).2.2.2.1
  have c4 : wr.cell? ⟨mB, 4, none⟩ = some (.int .i64 ek) := (st_cells HR0.out.mb).2.2.2.2
  have ca := st_cells (HR0.out.mb.below (nbel wr (.cells #[.int .i64 oa, .int .i64 ob, .int .i64 oc] 29)))
  obtain ⟨_, _, ca2, ca3, ca4⟩ := ca
  dsimp only at ca2 ca3 ca4
  obtain ⟨g, hg⟩ : ∃ g, wr.heap.size = g := ⟨_, rfl⟩
  have HM : Hid (Ms w mB p ⟨kind, oa, ob, oc, s, t, la, ln, lc, list, ra, rn, rc, recs⟩ ⟨bs, lim, ⟨ec, el, ek⟩⟩ ((wr.alloc (.cells #[.int .i64 oa, .int .i64 ob, .int .i64 oc] 29)).alloc (.cells #[.int .i64 ec, .int .i64 el, .int .i64 ek] 29)) ∧ Blk ((wr.alloc (.cells #[.int .i64 oa, .int .i64 ob, .int .i64 oc] 29)).alloc (.cells #[.int .i64 ec, .int .i64 el, .int .i64 ek] 29)) g 29 (erC ⟨oa, ob, oc⟩) ∧ Blk ((wr.alloc (.cells #[.int .i64 oa, .int .i64 ob, .int .i64 oc] 29)).alloc (.cells #[.int .i64 ec, .int .i64 el, .int .i64 ek] 29)) (g + 1) 29 (erC ⟨ec, el, ek⟩)) := hid (by
    obtain ⟨h1, h2, h3⟩ := Rs.new0 wr (erC ⟨oa, ob, oc⟩) (erC ⟨ec, el, ek⟩) 29 29
    rw [hg] at h1 h2
    exact ⟨HR0.out.below h3, h1, h2⟩)
  go_upto_region 57 with fail
  generalize hw2 : (wr.alloc (.cells #[.int .i64 oa, .int .i64 ob, .int .i64 oc] 29)).alloc (.cells #[.int .i64 ec, .int .i64 el, .int .i64 ek] 29) = w2 at HM ⊢
  clear hw2 c2 c3 c4 ca2 ca3 ca4 HR0 hg x0 x1 x2 x3 x4 x5 x6 x7
  have y1 : w2.cell? ⟨g, 0, none⟩ = some (.int .i64 oa) := HM.out.2.1.cell 0
  have y2 : w2.cell? ⟨g, 1, none⟩ = some (.int .i64 ob) := HM.out.2.1.cell 1
  have y3 : w2.cell? ⟨g, 2, none⟩ = some (.int .i64 oc) := HM.out.2.1.cell 2
  have y4 : w2.cell? ⟨g + 1, 0, none⟩ = some (.int .i64 ec) := HM.out.2.2.cell 0
  have y5 : w2.cell? ⟨g + 1, 1, none⟩ = some (.int .i64 el) := HM.out.2.2.cell 1
  have y6 : w2.cell? ⟨g + 1, 2, none⟩ = some (.int .i64 ek) := HM.out.2.2.cell 2
  have c2 : w2.cell? ⟨mB, 2, none⟩ = some (.int .i64 ec) := (st_cells HM.out.1.mb).2.2.1
  have c3 : w2.cell? ⟨mB, 3, none⟩ = some (.int .i64 el) := (st_cells HM.out.1.mb).2.2.2.1
  have c4 : w2.cell? ⟨mB, 4, none⟩ = some (.int .i64 ek) := (st_cells HM.out.1.mb).2.2.2.2
  obtain ⟨b1, hb1⟩ : ∃ b, (oa != 0) = b := ⟨_, rfl⟩
  have hb1' : (!(oa == 0)) = b1 := hb1
  have Hb1 := hid hb1
  go_upto_if 243 with fail
  clear hb1 hb1'
  go_cut [] from 243 to 271 (fun wc => Hid (Ms w mB p ⟨kind, oa, ob, oc, s, t, la, ln, lc, list, ra, rn, rc, recs⟩ ⟨bs, lim, fe⟩ wc))
  case first =>
    cases b1 with
    | false =>
        have h0 : oa = 0 := by simpa using Hb1.out
        have HE : Hid ((⟨ec, el, ek⟩ : Er) = fe) := hid (by
          rw [← Hfe.out]
          exact first_0 h0)
        have HN : Hid (Ms w mB p ⟨kind, oa, ob, oc, s, t, la, ln, lc, list, ra, rn, rc, recs⟩ ⟨bs, lim, fe⟩ w2) := hid (by rw [← HE.out]; exact HM.out.1)
        clear h0
        go_wp2
        go_meet
        exact HN
    | true =>
      have h0 : ¬ oa = 0 := by simpa using Hb1.out
      by_cases h1 : ec = 0
      · have d1 : (ec == 0) = true := by rw [h1]; rfl
        have HE : Hid ((⟨oa, ob, oc⟩ : Er) = fe) := hid (by
          rw [← Hfe.out]
          exact first_1 h0 h1)
        have f1 : w2.frozen? ⟨mB, 2, none⟩ = false := HM.out.1.mb.frozen _
        have f2 : w2.frozen? ⟨mB, 3, none⟩ = false := HM.out.1.mb.frozen _
        have f3 : w2.frozen? ⟨mB, 4, none⟩ = false := HM.out.1.mb.frozen _
        have HN : Hid (Ms w mB p ⟨kind, oa, ob, oc, s, t, la, ln, lc, list, ra, rn, rc, recs⟩ ⟨bs, lim, fe⟩ (((w2.setCell ⟨mB, 2, none⟩ (.int .i64 oa)).setCell ⟨mB, 3, none⟩ (.int .i64 ob)).setCell ⟨mB, 4, none⟩ (.int .i64 oc))) := hid (by rw [← HE.out]; exact HM.out.1.note (e := ⟨oa, ob, oc⟩))
        clear h0 h1
        go_wp2
        go_meet
        exact HN
      · have d1 : (ec == 0) = false := ne_bool h1
        by_cases h2 : ob < el
        · have d2 : decide (ob < el) = true := decide_eq_true h2
          have HE : Hid ((⟨oa, ob, oc⟩ : Er) = fe) := hid (by
            rw [← Hfe.out]
            exact first_lt h0 h1 h2)
          have f1 : w2.frozen? ⟨mB, 2, none⟩ = false := HM.out.1.mb.frozen _
          have f2 : w2.frozen? ⟨mB, 3, none⟩ = false := HM.out.1.mb.frozen _
          have f3 : w2.frozen? ⟨mB, 4, none⟩ = false := HM.out.1.mb.frozen _
          have HN : Hid (Ms w mB p ⟨kind, oa, ob, oc, s, t, la, ln, lc, list, ra, rn, rc, recs⟩ ⟨bs, lim, fe⟩ (((w2.setCell ⟨mB, 2, none⟩ (.int .i64 oa)).setCell ⟨mB, 3, none⟩ (.int .i64 ob)).setCell ⟨mB, 4, none⟩ (.int .i64 oc))) := hid (by rw [← HE.out]; exact HM.out.1.note (e := ⟨oa, ob, oc⟩))
          clear h0 h1 h2
          go_wp2
          go_meet
          exact HN
        · have d2 : decide (ob < el) = false := decide_eq_false h2
          by_cases h3 : ob = el
          · have d3 : (ob == el) = true := by rw [h3]; simp
            by_cases h4 : oc < ek
            · have d4 : decide (oc < ek) = true := decide_eq_true h4
              have HE : Hid ((⟨oa, ob, oc⟩ : Er) = fe) := hid (by
                rw [← Hfe.out]
                exact first_el h0 h1 h3 h4)
              have f1 : w2.frozen? ⟨mB, 2, none⟩ = false := HM.out.1.mb.frozen _
              have f2 : w2.frozen? ⟨mB, 3, none⟩ = false := HM.out.1.mb.frozen _
              have f3 : w2.frozen? ⟨mB, 4, none⟩ = false := HM.out.1.mb.frozen _
              have HN : Hid (Ms w mB p ⟨kind, oa, ob, oc, s, t, la, ln, lc, list, ra, rn, rc, recs⟩ ⟨bs, lim, fe⟩ (((w2.setCell ⟨mB, 2, none⟩ (.int .i64 oa)).setCell ⟨mB, 3, none⟩ (.int .i64 ob)).setCell ⟨mB, 4, none⟩ (.int .i64 oc))) := hid (by rw [← HE.out]; exact HM.out.1.note (e := ⟨oa, ob, oc⟩))
              clear h0 h1 h2 h3 h4
              go_wp2
              go_meet
              exact HN
            · have d4 : decide (oc < ek) = false := decide_eq_false h4
              have HE : Hid ((⟨ec, el, ek⟩ : Er) = fe) := hid (by
                rw [← Hfe.out]
                exact first_eg h0 h1 h3 h4)
              have HN : Hid (Ms w mB p ⟨kind, oa, ob, oc, s, t, la, ln, lc, list, ra, rn, rc, recs⟩ ⟨bs, lim, fe⟩ w2) := hid (by rw [← HE.out]; exact HM.out.1)
              clear h0 h1 h2 h3 h4
              go_wp2
              go_meet
              exact HN
          · have d3 : (ob == el) = false := ne_bool h3
            have HE : Hid ((⟨ec, el, ek⟩ : Er) = fe) := hid (by
              rw [← Hfe.out]
              exact first_gt h0 h1 h2 h3)
            have HN : Hid (Ms w mB p ⟨kind, oa, ob, oc, s, t, la, ln, lc, list, ra, rn, rc, recs⟩ ⟨bs, lim, fe⟩ w2) := hid (by rw [← HE.out]; exact HM.out.1)
            clear h0 h1 h2 h3
            go_wp2
            go_meet
            exact HN
  case rest =>
    obtain ⟨fc, fl, fk⟩ := fe
    have HN := hid hcut.out
    clear hcut HM y1 y2 y3 y4 y5 y6 c2 c3 c4
    go_upto_region 60 with fail
    obtain ⟨X, W, HTT, H0, hne, HC⟩ := class_below wc
    have HX : Hid (∀ y, Ms w mB p ⟨kind, oa, ob, oc, s, t, la, ln, lc, list, ra, rn, rc, recs⟩ ⟨bs, lim, ⟨fc, fl, fk⟩⟩ (W y)) := hid (fun y => HN.out.below (HTT.out y))
    have y1 : ∀ y, (W y).cell? ⟨mB, 2, none⟩ = some (.int .i64 fc) := fun y => (st_cells (HX.out y).mb).2.2.1
    have y2 : ∀ y, (W y).cell? ⟨mB, 3, none⟩ = some (.int .i64 fl) := fun y => (st_cells (HX.out y).mb).2.2.2.1
    have y3 : ∀ y, (W y).cell? ⟨mB, 4, none⟩ = some (.int .i64 fk) := fun y => (st_cells (HX.out y).mb).2.2.2.2
    refine wp_region_class_tailT W 16 (by kernel_rfl) (by kernel_rfl) (by kernel_rfl) H0.out ?_
    dsimp only [List.take]
    repeat (go_big_quiet_step (fail))
    refine wpQuiet_nil ?_
    intro z
    have HZ := hid (HX.out z)
    generalize W z = wy at HZ ⊢
    clear y1 y2 y3 H0 HTT HC hne HX HN
    dsimp only [List.drop]
    refine wpList_store_blk rfl 39 _ _ rfl (p + 1) rfl (ouC fc false fl fk ByteArray.empty nilV nilV) rfl HZ.out.ou rfl I0.out (ou_one _ _ _ _ _ _ _ _ _ _ _) ?_
    intro w9 HB9 HU9
    go_wp2
    exact bodyPost_ret (results_blk (cs := ouC fc false fl fk ByteArray.empty nilV nilV) Tryd.results10 rfl aggOu HB9.out) rfl (by
      rw [Hfe.out]
      exact HZ.out.fin (O := noteO ⟨fc, fl, fk⟩) rfl rfl HU9.out)
theorem mstepX_walk (h : Blk w mB 31 (stC S)) (o : TOp) (hok : OpOk w o) (hk : o.kind < 0 ∨ 22 < o.kind) : Calls Tryd.prog 10 #[.pointer (some ⟨mB, 0, none⟩), .agg (opCells o).toArray] w fun e w' => MsP w mB (oz) (S) e w' := by
  have HR0 := hid (Ms.new h o)
  have HB0 := hid (Rs.newB w o)
  have I0 := hid info_ou
  have HOk := hid hok
  obtain ⟨p, hp⟩ : ∃ p, w.heap.size = p := ⟨_, rfl⟩
  rw [hp] at HR0
  obtain ⟨kind, oa, ob, oc, s, t, la, ln, lc, list, ra, rn, rc, recs⟩ := o
  have e0 : (opCells ⟨kind, oa, ob, oc, s, t, la, ln, lc, list, ra, rn, rc, recs⟩).toArray = #[.int .i64 kind, .int .i64 oa, .int .i64 ob, .int .i64 oc, .string s, .string t, .slice la ln lc, .slice ra rn rc] := rfl
  have HCl : Hid (∀ {S'} {wx : World}, Ms w mB p ⟨kind, oa, ob, oc, s, t, la, ln, lc, list, ra, rn, rc, recs⟩ S' wx → wx.cell? ⟨p, 0, none⟩ = some (.int .i64 kind) ∧ wx.cell? ⟨p, 1, none⟩ = some (.int .i64 oa) ∧ wx.cell? ⟨p, 2, none⟩ = some (.int .i64 ob) ∧ wx.cell? ⟨p, 3, none⟩ = some (.int .i64 oc) ∧ wx.cell? ⟨p, 4, none⟩ = some (.string s) ∧ wx.cell? ⟨p, 5, none⟩ = some (.string t) ∧ wx.cell? ⟨p, 6, none⟩ = some (.slice la ln lc) ∧ wx.cell? ⟨p, 7, none⟩ = some (.slice ra rn rc)) := hid (fun h => ⟨h.ob.cell 0, h.ob.cell 1, h.ob.cell 2, h.ob.cell 3, h.ob.cell 4, h.ob.cell 5, h.ob.cell 6, h.ob.cell 7⟩)
  rw [e0] at HR0 HB0
  rw [show (opCells _).toArray = _ from e0]
  dsimp only at hk hok ⊢
  have k0 : (kind == 0) = false := ne_bool (by omega)
  have k1 : (kind == 1) = false := ne_bool (by omega)
  have k2 : (kind == 2) = false := ne_bool (by omega)
  have k3 : (kind == 3) = false := ne_bool (by omega)
  have k4 : (kind == 4) = false := ne_bool (by omega)
  have k5 : (kind == 5) = false := ne_bool (by omega)
  have k6 : (kind == 6) = false := ne_bool (by omega)
  have k7 : (kind == 7) = false := ne_bool (by omega)
  have k8 : (kind == 8) = false := ne_bool (by omega)
  have k9 : (kind == 9) = false := ne_bool (by omega)
  have k10 : (kind == 10) = false := ne_bool (by omega)
  have k11 : (kind == 11) = false := ne_bool (by omega)
  have k12 : (kind == 12) = false := ne_bool (by omega)
  have k13 : (kind == 13) = false := ne_bool (by omega)
  have k14 : (kind == 14) = false := ne_bool (by omega)
  have k15 : (kind == 15) = false := ne_bool (by omega)
  have k16 : (kind == 16) = false := ne_bool (by omega)
  have k17 : (kind == 17) = false := ne_bool (by omega)
  have k18 : (kind == 18) = false := ne_bool (by omega)
  have k19 : (kind == 19) = false := ne_bool (by omega)
  have k20 : (kind == 20) = false := ne_bool (by omega)
  have k21 : (kind == 21) = false := ne_bool (by omega)
  have k22 : (kind == 22) = false := ne_bool (by omega)
  clear hok e0 h
  clear hk
  go_enter Tryd.func10, Tryd.ntmps10
  go_upto_region 1 with fail
  generalize hwr : ((w.alloc (Obj.cells #[.int .i64 kind, .int .i64 oa, .int .i64 ob, .int .i64 oc, .string s, .string t, .slice la ln lc, .slice ra rn rc] 36)).alloc (Obj.cells #[.int .i64 0, .bool false, .int .i64 0, .int .i64 0, .string ⟨#[]⟩, .slice none 0 0, .slice none 0 0] 39)) = wr at HR0 HB0 ⊢
  clear hwr hp
  obtain ⟨x0, x1, x2, x3, x4, x5, x6, x7⟩ := HCl.out HR0.out
  go_wp2_with (refine wpList_store_blk rfl 39 _ _ rfl (p + 1) rfl (ouC 0 false 0 0 ByteArray.empty nilV nilV) rfl HR0.out.ou rfl I0.out (ou_one _ _ _ _ _ _ _ _ _ _ _) ?_; intro w9 HB9 HU9)
  exact bodyPost_ret (results_blk (cs := ouC 0 false 0 0 ByteArray.empty nilV nilV) Tryd.results10 rfl aggOu HB9.out) rfl (HR0.out.fin (O := oz) rfl rfl HU9.out)
end
end Go.Proofs.Qxb6500890aDoor
