/- The player's step: kinds 20 and 22. Written by tools/mk_txp.py. -/
import Derived.Test.Qxb6500890aDoorTxP4
namespace Go.Proofs.Qxb6500890aDoor
open Go.RowKit
set_option linter.unusedSimpArgs false
set_option linter.unusedVariables false

section
variable {w wr w' : World} {ρ ρ' ρ'' : Rl} {pB bB bB' p : Nat} {a a' : Option Addr} {q q' : Nat} {S S' : TS} {o : TOp}
set_option maxRecDepth 100000
set_option maxHeartbeats 2000000
theorem pstep22_walk (h : PlM w ρ pB bB a q S) (o : TOp) (hok : OpOk w o) (hk : o.kind = 22) : Calls Tryd.prog 9 #[.pointer (some ⟨pB, 0, none⟩), .agg (opCells o).toArray] w fun e w' => RsP w ρ pB (noteO (firstE S.er ⟨o.a, o.b, o.c⟩)) ({ S with er := firstE S.er ⟨o.a, o.b, o.c⟩ }) e w' := by
  have HR0 := hid (Rs.new h o)
  have HB0 := hid (Rs.newB w o)
  have HZr : Hid (∀ g, w.heap.size ≤ g → ρ g = 0) := hid (fun g hg => h.zero hg)
  have I0 := hid info_ou
  have HOk := hid hok
  obtain ⟨p, hp⟩ : ∃ p, w.heap.size = p := ⟨_, rfl⟩
  rw [hp] at HR0
  obtain ⟨kind, oa, ob, oc, s, t, la, ln, lc, list, ra, rn, rc, recs⟩ := o
  have e0 : (opCells ⟨kind, oa, ob, oc, s, t, la, ln, lc, list, ra, rn, rc, recs⟩).toArray = #[.int .i64 kind, .int .i64 oa, .int .i64 ob, .int .i64 oc, .string s, .string t, .slice la ln lc, .slice ra rn rc] := rfl
  have HCl : Hid (∀ {ρ' bB' a' q' S'} {wx : World}, Rs w ρ pB p ⟨kind, oa, ob, oc, s, t, la, ln, lc, list, ra, rn, rc, recs⟩ ρ' bB' a' q' S' wx → wx.cell? ⟨p, 0, none⟩ = some (.int .i64 kind) ∧ wx.cell? ⟨p, 1, none⟩ = some (.int .i64 oa) ∧ wx.cell? ⟨p, 2, none⟩ = some (.int .i64 ob) ∧ wx.cell? ⟨p, 3, none⟩ = some (.int .i64 oc) ∧ wx.cell? ⟨p, 4, none⟩ = some (.string s) ∧ wx.cell? ⟨p, 5, none⟩ = some (.string t) ∧ wx.cell? ⟨p, 6, none⟩ = some (.slice la ln lc) ∧ wx.cell? ⟨p, 7, none⟩ = some (.slice ra rn rc)) := hid (fun h => ⟨h.ob.cell 0, h.ob.cell 1, h.ob.cell 2, h.ob.cell 3, h.ob.cell 4, h.ob.cell 5, h.ob.cell 6, h.ob.cell 7⟩)
  rw [e0] at HR0 HB0
  rw [show (opCells _).toArray = _ from e0]
  dsimp only at hk hok ⊢
  have k0 : (kind == 0) = false := by rw [hk]; rfl
  have k1 : (kind == 1) = false := by rw [hk]; rfl
  have k2 : (kind == 2) = false := by rw [hk]; rfl
  have k3 : (kind == 3) = false := by rw [hk]; rfl
  have k4 : (kind == 4) = false := by rw [hk]; rfl
  have k5 : (kind == 5) = false := by rw [hk]; rfl
  have k6 : (kind == 6) = false := by rw [hk]; rfl
  have k7 : (kind == 7) = false := by rw [hk]; rfl
  have k8 : (kind == 8) = false := by rw [hk]; rfl
  have k9 : (kind == 9) = false := by rw [hk]; rfl
  have k10 : (kind == 10) = false := by rw [hk]; rfl
  have k11 : (kind == 11) = false := by rw [hk]; rfl
  have k12 : (kind == 12) = false := by rw [hk]; rfl
  have k13 : (kind == 13) = false := by rw [hk]; rfl
  have k14 : (kind == 14) = false := by rw [hk]; rfl
  have k15 : (kind == 15) = false := by rw [hk]; rfl
  have k16 : (kind == 16) = false := by rw [hk]; rfl
  have k17 : (kind == 17) = false := by rw [hk]; rfl
  have k18 : (kind == 18) = false := by rw [hk]; rfl
  have k19 : (kind == 19) = false := by rw [hk]; rfl
  have k20 : (kind == 20) = false := by rw [hk]; rfl
  have k21 : (kind == 21) = false := by rw [hk]; rfl
  have k22 : (kind == 22) = true := by rw [hk]; rfl
  clear hok e0 h
  clear hk
  go_enter Tryd.func9, Tryd.ntmps9
  go_upto_region 1 with fail
  generalize hwr : ((w.alloc (Obj.cells #[.int .i64 kind, .int .i64 oa, .int .i64 ob, .int .i64 oc, .string s, .string t, .slice la ln lc, .slice ra rn rc] 36)).alloc (Obj.cells #[.int .i64 0, .bool false, .int .i64 0, .int .i64 0, .string ⟨#[]⟩, .slice none 0 0, .slice none 0 0] 39)) = wr at HR0 HB0 ⊢
  clear hwr hp
  obtain ⟨x0, x1, x2, x3, x4, x5, x6, x7⟩ := HCl.out HR0.out
  have HF := hid (record_walk ⟨kind, oa, ob, oc, s, t, la, ln, lc, list, ra, rn, rc, recs⟩)
  rw [show (opCells ⟨kind, oa, ob, oc, s, t, la, ln, lc, list, ra, rn, rc, recs⟩).toArray = #[.int .i64 kind, .int .i64 oa, .int .i64 ob, .int .i64 oc, .string s, .string t, .slice la ln lc, .slice ra rn rc] from rfl] at HF
  obtain ⟨bs, lim, er⟩ := S
  have HD := hid (first_walk er ⟨oa, ob, oc⟩)
  obtain ⟨fe, hfe⟩ : ∃ x, firstE er ⟨oa, ob, oc⟩ = x := ⟨_, rfl⟩
  rw [hfe] at HD
  have Hfe := hid hfe
  clear hfe
  obtain ⟨ec, el, ek⟩ := er
  obtain ⟨fc, fl, fk⟩ := fe
  rw [show (erC ⟨ec, el, ek⟩).toArray = #[.int .i64 ec, .int .i64 el, .int .i64 ek] from rfl, show (erC ⟨oa, ob, oc⟩).toArray = #[.int .i64 oa, .int .i64 ob, .int .i64 oc] from rfl] at HD
  have HF1 : Hid (∀ wx, Calls Tryd.prog 38 #[.agg #[.int .i64 kind, .int .i64 oa, .int .i64 ob, .int .i64 oc, .string s, .string t, .slice la ln lc, .slice ra rn rc]] wx fun r w' => r = .returned (.agg #[.int .i64 oa, .int .i64 ob, .int .i64 oc]) ∧ Below wx.heap.size wx w') := hid (fun wx => HF.out wx)
  have HD1 : Hid (∀ wx, Calls Tryd.prog 39 #[.agg #[.int .i64 ec, .int .i64 el, .int .i64 ek], .agg #[.int .i64 oa, .int .i64 ob, .int .i64 oc]] wx fun r w' => r = .returned (.agg #[.int .i64 fc, .int .i64 fl, .int .i64 fk]) ∧ Below wx.heap.size wx w') := hid (fun wx => HD.out wx)
  clear HF HD
  go_upto_region 59 with fail
  obtain ⟨X, W, HTT, H0, hne, HC⟩ := class_below wr
  have HX : Hid (∀ y, Rs w ρ pB p ⟨kind, oa, ob, oc, s, t, la, ln, lc, list, ra, rn, rc, recs⟩ ρ bB a q ⟨bs, lim, ⟨ec, el, ek⟩⟩ (W y)) := hid (fun y => HR0.out.below (HTT.out y))
  have z0 := fun y => (HCl.out (HX.out y)).1
  have z1 := fun y => (HCl.out (HX.out y)).2.1
  have z2 := fun y => (HCl.out (HX.out y)).2.2.1
  have z3 := fun y => (HCl.out (HX.out y)).2.2.2.1
  have z4 := fun y => (HCl.out (HX.out y)).2.2.2.2.1
  have z5 := fun y => (HCl.out (HX.out y)).2.2.2.2.2.1
  have z6 := fun y => (HCl.out (HX.out y)).2.2.2.2.2.2.1
  have z7 := fun y => (HCl.out (HX.out y)).2.2.2.2.2.2.2
  have y1 : ∀ y, (W y).cell? ⟨pB, 1, none⟩ = some (.int .i64 ec) := fun y => (HX.out y).pl.cells.2.1
  have y2 : ∀ y, (W y).cell? ⟨pB, 2, none⟩ = some (.int .i64 el) := fun y => (HX.out y).pl.cells.2.2.1
  have y3 : ∀ y, (W y).cell? ⟨pB, 3, none⟩ = some (.int .i64 ek) := fun y => (HX.out y).pl.cells.2.2.2
  refine wp_region_class_tailT W 8 (by kernel_rfl) (by kernel_rfl) (by kernel_rfl) H0.out ?_
  dsimp only [List.take]
  repeat (go_big_quiet_step (first | (go_at_call 38; exact Calls.class_of HC.out (HF1.out _)) | (go_at_call 39; exact Calls.class_of HC.out (HD1.out _))))
  refine wpQuiet_nil ?_
  intro z
  have HZ := hid (HX.out z)
  generalize W z = wz at HZ ⊢
  clear z0 z1 z2 z3 z4 z5 z6 z7 y1 y2 y3 H0 HTT HC hne HX HF1 HD1 HR0 x0 x1 x2 x3 x4 x5 x6 x7
  dsimp only [List.drop]
  have y1 : wz.cell? ⟨pB, 1, none⟩ = some (.int .i64 ec) := HZ.out.pl.cells.2.1
  have y2 : wz.cell? ⟨pB, 2, none⟩ = some (.int .i64 el) := HZ.out.pl.cells.2.2.1
  have y3 : wz.cell? ⟨pB, 3, none⟩ = some (.int .i64 ek) := HZ.out.pl.cells.2.2.2
  have f1 : wz.frozen? ⟨pB, 1, none⟩ = false := HZ.out.pl.pb.frozen _
  have f2 : wz.frozen? ⟨pB, 2, none⟩ = false := HZ.out.pl.pb.frozen _
  have f3 : wz.frozen? ⟨pB, 3, none⟩ = false := HZ.out.pl.pb.frozen _
  have HN := hid (HZ.out.note (e := ⟨fc, fl, fk⟩))
  dsimp only at HN
  go_upto_region 60 with fail
  generalize hw3 : ((wz.setCell ⟨pB, 1, none⟩ (.int .i64 fc)).setCell ⟨pB, 2, none⟩ (.int .i64 fl)).setCell ⟨pB, 3, none⟩ (.int .i64 fk) = w3 at HN ⊢
  clear hw3 y1 y2 y3 f1 f2 f3 HZ
  obtain ⟨X, W, HTT, H0, hne, HC⟩ := class_below w3
  have HX : Hid (∀ y, Rs w ρ pB p ⟨kind, oa, ob, oc, s, t, la, ln, lc, list, ra, rn, rc, recs⟩ ρ bB a q ⟨bs, lim, ⟨fc, fl, fk⟩⟩ (W y)) := hid (fun y => HN.out.below (HTT.out y))
  have y1 : ∀ y, (W y).cell? ⟨pB, 1, none⟩ = some (.int .i64 fc) := fun y => (HX.out y).pl.cells.2.1
  have y2 : ∀ y, (W y).cell? ⟨pB, 2, none⟩ = some (.int .i64 fl) := fun y => (HX.out y).pl.cells.2.2.1
  have y3 : ∀ y, (W y).cell? ⟨pB, 3, none⟩ = some (.int .i64 fk) := fun y => (HX.out y).pl.cells.2.2.2
  refine wp_region_class_tailT W 16 (by kernel_rfl) (by kernel_rfl) (by kernel_rfl) H0.out ?_
  dsimp only [List.take]
  repeat (go_big_quiet_step (fail))
  refine wpQuiet_nil ?_
  intro z
  have HZ := hid (HX.out z)
  generalize W z = wy at HZ ⊢
  clear y1 y2 y3 H0 HTT HC hne HX HN
  dsimp only [List.drop]
  refine wpList_store_blk rfl 39 _ _ rfl (p + 1) rfl (ouC fc false fl fk ByteArray.empty nilV nilV) rfl HZ.out.ou rfl I0.out (ou_one _ _ _ _ _ _ _ _ _ _ _) ?_
  intro w9 HB9 HU9
  go_wp2
  exact bodyPost_ret (results_blk (cs := ouC fc false fl fk ByteArray.empty nilV nilV) Tryd.results9 rfl aggOu HB9.out) rfl (by
    rw [Hfe.out]
    exact HZ.out.fin rfl rfl HU9.out)
theorem pstep20_walk (h : PlM w ρ pB bB a q S) (o : TOp) (hok : OpOk w o) (hk : o.kind = 20) (hs : o.s.size ≤ 65536) : Calls Tryd.prog 9 #[.pointer (some ⟨pB, 0, none⟩), .agg (opCells o).toArray] w fun e w' => RsP w ρ pB (plcO o.s o.a) (S) e w' := by
  have HR0 := hid (Rs.new h o)
  have HB0 := hid (Rs.newB w o)
  have HZr : Hid (∀ g, w.heap.size ≤ g → ρ g = 0) := hid (fun g hg => h.zero hg)
  have I0 := hid info_ou
  have HOk := hid hok
  obtain ⟨p, hp⟩ : ∃ p, w.heap.size = p := ⟨_, rfl⟩
  rw [hp] at HR0
  obtain ⟨kind, oa, ob, oc, s, t, la, ln, lc, list, ra, rn, rc, recs⟩ := o
  have e0 : (opCells ⟨kind, oa, ob, oc, s, t, la, ln, lc, list, ra, rn, rc, recs⟩).toArray = #[.int .i64 kind, .int .i64 oa, .int .i64 ob, .int .i64 oc, .string s, .string t, .slice la ln lc, .slice ra rn rc] := rfl
  have HCl : Hid (∀ {ρ' bB' a' q' S'} {wx : World}, Rs w ρ pB p ⟨kind, oa, ob, oc, s, t, la, ln, lc, list, ra, rn, rc, recs⟩ ρ' bB' a' q' S' wx → wx.cell? ⟨p, 0, none⟩ = some (.int .i64 kind) ∧ wx.cell? ⟨p, 1, none⟩ = some (.int .i64 oa) ∧ wx.cell? ⟨p, 2, none⟩ = some (.int .i64 ob) ∧ wx.cell? ⟨p, 3, none⟩ = some (.int .i64 oc) ∧ wx.cell? ⟨p, 4, none⟩ = some (.string s) ∧ wx.cell? ⟨p, 5, none⟩ = some (.string t) ∧ wx.cell? ⟨p, 6, none⟩ = some (.slice la ln lc) ∧ wx.cell? ⟨p, 7, none⟩ = some (.slice ra rn rc)) := hid (fun h => ⟨h.ob.cell 0, h.ob.cell 1, h.ob.cell 2, h.ob.cell 3, h.ob.cell 4, h.ob.cell 5, h.ob.cell 6, h.ob.cell 7⟩)
  rw [e0] at HR0 HB0
  rw [show (opCells _).toArray = _ from e0]
  dsimp only at hk hok ⊢
  have k0 : (kind == 0) = false := by rw [hk]; rfl
  have k1 : (kind == 1) = false := by rw [hk]; rfl
  have k2 : (kind == 2) = false := by rw [hk]; rfl
  have k3 : (kind == 3) = false := by rw [hk]; rfl
  have k4 : (kind == 4) = false := by rw [hk]; rfl
  have k5 : (kind == 5) = false := by rw [hk]; rfl
  have k6 : (kind == 6) = false := by rw [hk]; rfl
  have k7 : (kind == 7) = false := by rw [hk]; rfl
  have k8 : (kind == 8) = false := by rw [hk]; rfl
  have k9 : (kind == 9) = false := by rw [hk]; rfl
  have k10 : (kind == 10) = false := by rw [hk]; rfl
  have k11 : (kind == 11) = false := by rw [hk]; rfl
  have k12 : (kind == 12) = false := by rw [hk]; rfl
  have k13 : (kind == 13) = false := by rw [hk]; rfl
  have k14 : (kind == 14) = false := by rw [hk]; rfl
  have k15 : (kind == 15) = false := by rw [hk]; rfl
  have k16 : (kind == 16) = false := by rw [hk]; rfl
  have k17 : (kind == 17) = false := by rw [hk]; rfl
  have k18 : (kind == 18) = false := by rw [hk]; rfl
  have k19 : (kind == 19) = false := by rw [hk]; rfl
  have k20 : (kind == 20) = true := by rw [hk]; rfl
  clear hok e0 h
  clear hk
  go_enter Tryd.func9, Tryd.ntmps9
  go_upto_region 1 with fail
  generalize hwr : ((w.alloc (Obj.cells #[.int .i64 kind, .int .i64 oa, .int .i64 ob, .int .i64 oc, .string s, .string t, .slice la ln lc, .slice ra rn rc] 36)).alloc (Obj.cells #[.int .i64 0, .bool false, .int .i64 0, .int .i64 0, .string ⟨#[]⟩, .slice none 0 0, .slice none 0 0] 39)) = wr at HR0 HB0 ⊢
  clear hwr hp
  obtain ⟨x0, x1, x2, x3, x4, x5, x6, x7⟩ := HCl.out HR0.out
  have hs : s.size ≤ 65536 := hs
  obtain ⟨x, hx⟩ : ∃ n, oa.toNat = n := ⟨_, rfl⟩
  obtain ⟨n, hn⟩ : ∃ n, min oa.toNat s.size = n := ⟨_, rfl⟩
  have hn2 : n ≤ s.size := by omega
  have hn3 : (n : Int) ≤ (s.size : Int) := by omega
  have hm1 : (if oa < 0 then (0 : Int) else oa) = (x : Int) := by split <;> omega
  have hm2 : (if (s.size : Int) < (x : Int) then (s.size : Int) else (x : Int)) = (n : Int) := by split <;> omega
  have hm3 : (if s.size < x then (s.size : Int) else (x : Int)) = (n : Int) := by split <;> omega
  have Hn := hid hn
  obtain ⟨d, hd⟩ : ∃ d, s.extract 0 n = d := ⟨_, rfl⟩
  have Hd : Hid (placeP d.data.toList = plcP s oa ∧ d.size ≤ 65536) := hid (by
    subst hd
    constructor
    · unfold plcP
      rw [Hn.out]
      congr 1
      rw [ByteArray.data_extract]
      simp
    · rw [ByteArray.size_extract]
      omega)
  have HOv := hid (fun wx => over_walk d (by have := Hd.out.2; omega) wx)
  rw [Hd.out.1] at HOv
  obtain ⟨pl, hpl⟩ : ∃ x, plcP s oa = x := ⟨_, rfl⟩
  rw [hpl] at HOv
  have Hpl := hid hpl
  obtain ⟨l1, l2⟩ := pl
  obtain ⟨dz, hdz⟩ : ∃ x, d.size = x := ⟨_, rfl⟩
  rw [hdz] at HOv
  rw [show (cuC 0 1 1).toArray = #[.int .i64 0, .int .i64 1, .int .i64 1] from rfl] at HOv
  have HOv2 : Hid (∀ wx, Calls Tryd.prog 36 #[.agg #[.int .i64 0, .int .i64 1, .int .i64 1], .string d] wx fun r w' => r = .returned (.agg #[.int .i64 (dz : Int), .int .i64 (l1 : Int), .int .i64 (l2 : Int)]) ∧ Below wx.heap.size wx w') := hid (fun wx => HOv.out wx)
  have HOr : Hid (∀ wx, Calls Tryd.prog 35 #[] wx fun r w' => r = .returned (.agg #[.int .i64 0, .int .i64 1, .int .i64 1]) ∧ Below wx.heap.size wx w') := hid (fun wx => origin_walk wx)
  have J0 := hid info_cu
  clear hn hx hpl hdz HOv Hd
  go_upto_region 54 with fail
  clear hm1 hm2 hm3
  refine wp_region_alloc (C := fun wx => Rs w ρ pB p ⟨kind, oa, ob, oc, s, t, la, ln, lc, list, ra, rn, rc, recs⟩ ρ bB a q S wx) (n := 6) (B := p + 2) (t := 74) (zs := cuC 0 0 0) rfl rfl rfl (by kernel_rfl) (by kernel_rfl) (by kernel_rfl) ?hr2 (fun _ _ h hb => h.below hb) (fun _ h => h.ou.lt) HR0.out ?hx2
  case hr2 =>
    intro a w
    simp [go_sem]
    rfl
  apply Exists.intro
  refine ⟨?_, ?_⟩
  · intro X W hne hX hI
    have z4 : ∀ x, (W x).cell? ⟨p, 4, none⟩ = some (.string s) := fun x => (HCl.out (hX x)).2.2.2.2.1
    have HI := hid hI
    clear hI hX
    dsimp only [List.take]
    repeat (go_big_quiet_step (first | (go_at_call 35; exact Calls.class_of HI.out (HOr.out _)) | (go_at_call 36; exact Calls.class_of HI.out (HOv2.out _))))
    exact wpQuiet_nil rfl
  · intro g wx hg hC hbl
    dsimp only [List.drop]
    have HC1 := hid hC
    clear hC HR0 x0 x1 x2 x3 x4 x5 x6 x7
    refine wpList_store_blk rfl 74 _ _ rfl g rfl (cuC dz l1 l2) rfl hbl rfl J0.out (cu_one _ _ _) ?_
    intro wy HBy HUy
    have HR1 := hid (HC1.out.own HUy.out (by have := HC1.out.lo; omega) (HZr.out g (by have := HC1.out.lo; omega)) (by omega) (by omega))
    have y1 : wy.cell? ⟨g, 1, none⟩ = some (.int .i64 (l1 : Int)) := HBy.out.cell 1
    have y2 : wy.cell? ⟨g, 2, none⟩ = some (.int .i64 (l2 : Int)) := HBy.out.cell 2
    clear HC1 HUy hbl HBy
    go_wp2_with (refine wpList_store_blk rfl 39 _ _ rfl (p + 1) rfl (ouC 0 false (l1 : Int) (l2 : Int) ByteArray.empty nilV nilV) rfl HR1.out.ou rfl I0.out (ou_one _ _ _ _ _ _ _ _ _ _ _) ?_; intro w9 HB9 HU9)
    exact bodyPost_ret (results_blk (cs := ouC 0 false (l1 : Int) (l2 : Int) ByteArray.empty nilV nilV) Tryd.results9 rfl aggOu HB9.out) rfl (by
      have h := HR1.out.fin (O := plcO s oa) rfl rfl HU9.out
      unfold plcO at h ⊢
      rw [Hpl.out] at h ⊢
      exact h)
end
end Go.Proofs.Qxb6500890aDoor
