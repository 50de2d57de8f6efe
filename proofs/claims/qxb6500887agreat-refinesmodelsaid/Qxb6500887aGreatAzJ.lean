/- The arena's FieldAddr, DataAddr, LoadRef, LoadData, StoreRef, StoreData, Header, Format (written by tools/mk_azj.py). -/
import Derived.Test.Qxb6500887aGreatAzI
namespace Go.Proofs.Qxb6500887aGreat
open Go.RowKit
set_option linter.unusedSimpArgs false
set_option linter.unusedVariables false

section
variable {l : AL} {S : AS} {w w' w0 : World} {p : Nat} {cs : List Value} {o : Ob}
def arFieldAddrV (S : AS) (x i : Int) : Int × Int := if onC S x = 0 then (if (fwV S (opO S (gIx x)) i).2 = 0 then 65536 + (fwV S (opO S (gIx x)) i).1 else 0, (fwV S (opO S (gIx x)) i).2) else (0, onC S x)
set_option maxRecDepth 100000 in
set_option maxHeartbeats 1000000 in
theorem arFieldAddrZ (h : AM l S w) (x i : Int) : Calls Tryz.prog 69 #[.pointer (some ⟨l.a, 0, none⟩), .int .u64 x, .int .i64 i] w fun e w' => e = .returned (.tuple #[.int .u64 (arFieldAddrV S x i).1, .int .u8 (arFieldAddrV S x i).2]) ∧ Below w.heap.size w w' := by
  unfold arFieldAddrV
  have HO := hid (openZ h x)
  have HA := hid h
  by_cases hc : onC S x = 0
  · obtain ⟨_, _, e1, ho⟩ := onC_ok h hc
    rw [if_pos hc]
    rw [e1, hc] at HO
    generalize opO S (gIx x) = o at *
    have HM := hid (fun wz (hz : AM l S wz) => obFieldAddrZ hz ho i)
    have HO' : Hid (Calls Tryz.prog 22 #[.pointer (some ⟨l.a, 0, none⟩), .int .u64 x] w fun e w' => e = .returned (.tuple #[.agg #[.pointer (some ⟨l.a, 0, none⟩), .int .i64 (o.k : Int), .int .u64 (o.raw : Int), .int .i64 (o.sz : Int), .int .i64 (o.rf : Int)], .int .u8 0]) ∧ Below w.heap.size w w') := HO
    clear h hc ho e1 HO
    generalize (if (fwV S o i).2 = 0 then 65536 + (fwV S o i).1 else 0) = R1 at *
    generalize (fwV S o i).2 = R2 at *
    go_enter Tryz.func69, Tryz.ntmps69
    go_wp2_with fail
    refine HO'.out.mono ?_
    rintro e w2 ⟨rfl, hb2⟩
    obtain ⟨p, hp⟩ : ∃ p, w2.heap.size = p := ⟨_, rfl⟩
    have HX : Hid (OX w l S p (obL l o) (w2.alloc (.cells #[.pointer (some ⟨l.a, 0, none⟩), .int .i64 (o.k : Int), .int .u64 (o.raw : Int), .int .i64 (o.sz : Int), .int .i64 (o.rf : Int)] 61))) := hid (OX.new (cs := obL l o) (HA.out.below hb2) hb2 hp)
    clear hb2 HO' HA
    go_upto_region 4 with fail
    (try simp only [hp])
    generalize hw3 : w2.alloc _ = w3 at HX ⊢
    clear hw3 hp
    have p0 := HX.out.bk.cell 0
    have p1 := HX.out.bk.cell 1
    have p2 := HX.out.bk.cell 2
    have p3 := HX.out.bk.cell 3
    have p4 := HX.out.bk.cell 4
    simp only [obL, List.getElem?_cons_zero, List.getElem?_cons_succ] at p0 p1 p2 p3 p4
    go_wp2_with fail
    refine (HM.out _ HX.out.am).mono ?_
    rintro e w4 ⟨rfl, hb4⟩
    have HF : Hid (Below w.heap.size w w4) := hid (HX.out.below hb4).bel
    clear hb4 HX p0 p1 p2 p3 p4 HM
    go_wp2
    refine bodyPost_ret (results_tmp2 Tryz.results69 _ _ _) rfl ?_
    exact ⟨rfl, HF.out⟩
  · rw [if_neg hc]
    rw [onC_no hc] at HO
    have dc : (onC S x == 0) = false := by simpa using hc
    have dc2 : (onC S x != 0) = true := by simp [bne, dc]
    have HO' : Hid (Calls Tryz.prog 22 #[.pointer (some ⟨l.a, 0, none⟩), .int .u64 x] w fun e w' => e = .returned (.tuple #[.agg #[.pointer none, .int .i64 0, .int .u64 0, .int .i64 0, .int .i64 0], .int .u8 (onC S x)]) ∧ Below w.heap.size w w') := HO
    generalize onC S x = c at *
    clear h hc HO
    go_enter Tryz.func69, Tryz.ntmps69
    go_wp2_with fail
    refine HO'.out.mono ?_
    rintro e w2 ⟨rfl, hb2⟩
    have HB3 := hid (hb2.trans ((nbel w2 (.cells #[.pointer none, .int .i64 0, .int .u64 0, .int .i64 0, .int .i64 0] 61)).mono hb2.size))
    clear hb2 HO'
    go_upto_region 3 with fail
    generalize hw3 : w2.alloc _ = w3 at HB3 ⊢
    clear hw3
    go_wp2
    refine bodyPost_ret (results_tmp2 Tryz.results69 _ _ _) rfl ?_
    exact ⟨rfl, HB3.out⟩
def arDataAddrV (S : AS) (x i : Int) : Int × Int := if onC S x = 0 then (if (dwV S (opO S (gIx x)) i).2 = 0 then 65536 + (dwV S (opO S (gIx x)) i).1 else 0, (dwV S (opO S (gIx x)) i).2) else (0, onC S x)
set_option maxRecDepth 100000 in
set_option maxHeartbeats 1000000 in
theorem arDataAddrZ (h : AM l S w) (x i : Int) : Calls Tryz.prog 70 #[.pointer (some ⟨l.a, 0, none⟩), .int .u64 x, .int .i64 i] w fun e w' => e = .returned (.tuple #[.int .u64 (arDataAddrV S x i).1, .int .u8 (arDataAddrV S x i).2]) ∧ Below w.heap.size w w' := by
  unfold arDataAddrV
  have HO := hid (openZ h x)
  have HA := hid h
  by_cases hc : onC S x = 0
  · obtain ⟨_, _, e1, ho⟩ := onC_ok h hc
    rw [if_pos hc]
    rw [e1, hc] at HO
    generalize opO S (gIx x) = o at *
    have HM := hid (fun wz (hz : AM l S wz) => obDataAddrZ hz ho i)
    have HO' : Hid (Calls Tryz.prog 22 #[.pointer (some ⟨l.a, 0, none⟩), .int .u64 x] w fun e w' => e = .returned (.tuple #[.agg #[.pointer (some ⟨l.a, 0, none⟩), .int .i64 (o.k : Int), .int .u64 (o.raw : Int), .int .i64 (o.sz : Int), .int .i64 (o.rf : Int)], .int .u8 0]) ∧ Below w.heap.size w w') := HO
    clear h hc ho e1 HO
    generalize (if (dwV S o i).2 = 0 then 65536 + (dwV S o i).1 else 0) = R1 at *
    generalize (dwV S o i).2 = R2 at *
    go_enter Tryz.func70, Tryz.ntmps70
    go_wp2_with fail
    refine HO'.out.mono ?_
    rintro e w2 ⟨rfl, hb2⟩
    obtain ⟨p, hp⟩ : ∃ p, w2.heap.size = p := ⟨_, rfl⟩
    have HX : Hid (OX w l S p (obL l o) (w2.alloc (.cells #[.pointer (some ⟨l.a, 0, none⟩), .int .i64 (o.k : Int), .int .u64 (o.raw : Int), .int .i64 (o.sz : Int), .int .i64 (o.rf : Int)] 61))) := hid (OX.new (cs := obL l o) (HA.out.below hb2) hb2 hp)
    clear hb2 HO' HA
    go_upto_region 4 with fail
    (try simp only [hp])
    generalize hw3 : w2.alloc _ = w3 at HX ⊢
    clear hw3 hp
    have p0 := HX.out.bk.cell 0
    have p1 := HX.out.bk.cell 1
    have p2 := HX.out.bk.cell 2
    have p3 := HX.out.bk.cell 3
    have p4 := HX.out.bk.cell 4
    simp only [obL, List.getElem?_cons_zero, List.getElem?_cons_succ] at p0 p1 p2 p3 p4
    go_wp2_with fail
    refine (HM.out _ HX.out.am).mono ?_
    rintro e w4 ⟨rfl, hb4⟩
    have HF : Hid (Below w.heap.size w w4) := hid (HX.out.below hb4).bel
    clear hb4 HX p0 p1 p2 p3 p4 HM
    go_wp2
    refine bodyPost_ret (results_tmp2 Tryz.results70 _ _ _) rfl ?_
    exact ⟨rfl, HF.out⟩
  · rw [if_neg hc]
    rw [onC_no hc] at HO
    have dc : (onC S x == 0) = false := by simpa using hc
    have dc2 : (onC S x != 0) = true := by simp [bne, dc]
    have HO' : Hid (Calls Tryz.prog 22 #[.pointer (some ⟨l.a, 0, none⟩), .int .u64 x] w fun e w' => e = .returned (.tuple #[.agg #[.pointer none, .int .i64 0, .int .u64 0, .int .i64 0, .int .i64 0], .int .u8 (onC S x)]) ∧ Below w.heap.size w w') := HO
    generalize onC S x = c at *
    clear h hc HO
    go_enter Tryz.func70, Tryz.ntmps70
    go_wp2_with fail
    refine HO'.out.mono ?_
    rintro e w2 ⟨rfl, hb2⟩
    have HB3 := hid (hb2.trans ((nbel w2 (.cells #[.pointer none, .int .i64 0, .int .u64 0, .int .i64 0, .int .i64 0] 61)).mono hb2.size))
    clear hb2 HO'
    go_upto_region 3 with fail
    generalize hw3 : w2.alloc _ = w3 at HB3 ⊢
    clear hw3
    go_wp2
    refine bodyPost_ret (results_tmp2 Tryz.results70 _ _ _) rfl ?_
    exact ⟨rfl, HB3.out⟩
def arLoadRefV (S : AS) (x i : Int) : Int × Int := if onC S x = 0 then rfV S (opO S (gIx x)) i else (0, onC S x)
set_option maxRecDepth 100000 in
set_option maxHeartbeats 1000000 in
theorem arLoadRefZ (h : AM l S w) (x i : Int) : Calls Tryz.prog 28 #[.pointer (some ⟨l.a, 0, none⟩), .int .u64 x, .int .i64 i] w fun e w' => e = .returned (.tuple #[.int .u64 (arLoadRefV S x i).1, .int .u8 (arLoadRefV S x i).2]) ∧ Below w.heap.size w w' := by
  unfold arLoadRefV
  have HO := hid (openZ h x)
  have HA := hid h
  by_cases hc : onC S x = 0
  · obtain ⟨_, _, e1, ho⟩ := onC_ok h hc
    rw [if_pos hc]
    rw [e1, hc] at HO
    generalize opO S (gIx x) = o at *
    have HM := hid (fun wz (hz : AM l S wz) => obRefZ hz ho i)
    have HO' : Hid (Calls Tryz.prog 22 #[.pointer (some ⟨l.a, 0, none⟩), .int .u64 x] w fun e w' => e = .returned (.tuple #[.agg #[.pointer (some ⟨l.a, 0, none⟩), .int .i64 (o.k : Int), .int .u64 (o.raw : Int), .int .i64 (o.sz : Int), .int .i64 (o.rf : Int)], .int .u8 0]) ∧ Below w.heap.size w w') := HO
    clear h hc ho e1 HO
    obtain ⟨R, hR⟩ : ∃ R, rfV S o i = R := ⟨_, rfl⟩
    rw [hR] at HM ⊢
    clear hR
    go_enter Tryz.func28, Tryz.ntmps28
    go_wp2_with fail
    refine HO'.out.mono ?_
    rintro e w2 ⟨rfl, hb2⟩
    obtain ⟨p, hp⟩ : ∃ p, w2.heap.size = p := ⟨_, rfl⟩
    have HX : Hid (OX w l S p (obL l o) (w2.alloc (.cells #[.pointer (some ⟨l.a, 0, none⟩), .int .i64 (o.k : Int), .int .u64 (o.raw : Int), .int .i64 (o.sz : Int), .int .i64 (o.rf : Int)] 61))) := hid (OX.new (cs := obL l o) (HA.out.below hb2) hb2 hp)
    clear hb2 HO' HA
    go_upto_region 4 with fail
    (try simp only [hp])
    generalize hw3 : w2.alloc _ = w3 at HX ⊢
    clear hw3 hp
    have p0 := HX.out.bk.cell 0
    have p1 := HX.out.bk.cell 1
    have p2 := HX.out.bk.cell 2
    have p3 := HX.out.bk.cell 3
    have p4 := HX.out.bk.cell 4
    simp only [obL, List.getElem?_cons_zero, List.getElem?_cons_succ] at p0 p1 p2 p3 p4
    go_wp2_with fail
    refine (HM.out _ HX.out.am).mono ?_
    rintro e w4 ⟨rfl, hb4⟩
    have HF : Hid (Below w.heap.size w w4) := hid (HX.out.below hb4).bel
    clear hb4 HX p0 p1 p2 p3 p4 HM
    go_wp2
    refine bodyPost_ret (results_tmp2 Tryz.results28 _ _ _) rfl ?_
    exact ⟨rfl, HF.out⟩
  · rw [if_neg hc]
    rw [onC_no hc] at HO
    have dc : (onC S x == 0) = false := by simpa using hc
    have dc2 : (onC S x != 0) = true := by simp [bne, dc]
    have HO' : Hid (Calls Tryz.prog 22 #[.pointer (some ⟨l.a, 0, none⟩), .int .u64 x] w fun e w' => e = .returned (.tuple #[.agg #[.pointer none, .int .i64 0, .int .u64 0, .int .i64 0, .int .i64 0], .int .u8 (onC S x)]) ∧ Below w.heap.size w w') := HO
    generalize onC S x = c at *
    clear h hc HO
    go_enter Tryz.func28, Tryz.ntmps28
    go_wp2_with fail
    refine HO'.out.mono ?_
    rintro e w2 ⟨rfl, hb2⟩
    have HB3 := hid (hb2.trans ((nbel w2 (.cells #[.pointer none, .int .i64 0, .int .u64 0, .int .i64 0, .int .i64 0] 61)).mono hb2.size))
    clear hb2 HO'
    go_upto_region 3 with fail
    generalize hw3 : w2.alloc _ = w3 at HB3 ⊢
    clear hw3
    go_wp2
    refine bodyPost_ret (results_tmp2 Tryz.results28 _ _ _) rfl ?_
    exact ⟨rfl, HB3.out⟩
def arLoadDataV (S : AS) (x i : Int) : Int × Int := if onC S x = 0 then dtV S (opO S (gIx x)) i else (0, onC S x)
set_option maxRecDepth 100000 in
set_option maxHeartbeats 1000000 in
theorem arLoadDataZ (h : AM l S w) (x i : Int) : Calls Tryz.prog 30 #[.pointer (some ⟨l.a, 0, none⟩), .int .u64 x, .int .i64 i] w fun e w' => e = .returned (.tuple #[.int .u64 (arLoadDataV S x i).1, .int .u8 (arLoadDataV S x i).2]) ∧ Below w.heap.size w w' := by
  unfold arLoadDataV
  have HO := hid (openZ h x)
  have HA := hid h
  by_cases hc : onC S x = 0
  · obtain ⟨_, _, e1, ho⟩ := onC_ok h hc
    rw [if_pos hc]
    rw [e1, hc] at HO
    generalize opO S (gIx x) = o at *
    have HM := hid (fun wz (hz : AM l S wz) => obDataZ hz ho i)
    have HO' : Hid (Calls Tryz.prog 22 #[.pointer (some ⟨l.a, 0, none⟩), .int .u64 x] w fun e w' => e = .returned (.tuple #[.agg #[.pointer (some ⟨l.a, 0, none⟩), .int .i64 (o.k : Int), .int .u64 (o.raw : Int), .int .i64 (o.sz : Int), .int .i64 (o.rf : Int)], .int .u8 0]) ∧ Below w.heap.size w w') := HO
    clear h hc ho e1 HO
    obtain ⟨R, hR⟩ : ∃ R, dtV S o i = R := ⟨_, rfl⟩
    rw [hR] at HM ⊢
    clear hR
    go_enter Tryz.func30, Tryz.ntmps30
    go_wp2_with fail
    refine HO'.out.mono ?_
    rintro e w2 ⟨rfl, hb2⟩
    obtain ⟨p, hp⟩ : ∃ p, w2.heap.size = p := ⟨_, rfl⟩
    have HX : Hid (OX w l S p (obL l o) (w2.alloc (.cells #[.pointer (some ⟨l.a, 0, none⟩), .int .i64 (o.k : Int), .int .u64 (o.raw : Int), .int .i64 (o.sz : Int), .int .i64 (o.rf : Int)] 61))) := hid (OX.new (cs := obL l o) (HA.out.below hb2) hb2 hp)
    clear hb2 HO' HA
    go_upto_region 4 with fail
    (try simp only [hp])
    generalize hw3 : w2.alloc _ = w3 at HX ⊢
    clear hw3 hp
    have p0 := HX.out.bk.cell 0
    have p1 := HX.out.bk.cell 1
    have p2 := HX.out.bk.cell 2
    have p3 := HX.out.bk.cell 3
    have p4 := HX.out.bk.cell 4
    simp only [obL, List.getElem?_cons_zero, List.getElem?_cons_succ] at p0 p1 p2 p3 p4
    go_wp2_with fail
    refine (HM.out _ HX.out.am).mono ?_
    rintro e w4 ⟨rfl, hb4⟩
    have HF : Hid (Below w.heap.size w w4) := hid (HX.out.below hb4).bel
    clear hb4 HX p0 p1 p2 p3 p4 HM
    go_wp2
    refine bodyPost_ret (results_tmp2 Tryz.results30 _ _ _) rfl ?_
    exact ⟨rfl, HF.out⟩
  · rw [if_neg hc]
    rw [onC_no hc] at HO
    have dc : (onC S x == 0) = false := by simpa using hc
    have dc2 : (onC S x != 0) = true := by simp [bne, dc]
    have HO' : Hid (Calls Tryz.prog 22 #[.pointer (some ⟨l.a, 0, none⟩), .int .u64 x] w fun e w' => e = .returned (.tuple #[.agg #[.pointer none, .int .i64 0, .int .u64 0, .int .i64 0, .int .i64 0], .int .u8 (onC S x)]) ∧ Below w.heap.size w w') := HO
    generalize onC S x = c at *
    clear h hc HO
    go_enter Tryz.func30, Tryz.ntmps30
    go_wp2_with fail
    refine HO'.out.mono ?_
    rintro e w2 ⟨rfl, hb2⟩
    have HB3 := hid (hb2.trans ((nbel w2 (.cells #[.pointer none, .int .i64 0, .int .u64 0, .int .i64 0, .int .i64 0] 61)).mono hb2.size))
    clear hb2 HO'
    go_upto_region 3 with fail
    generalize hw3 : w2.alloc _ = w3 at HB3 ⊢
    clear hw3
    go_wp2
    refine bodyPost_ret (results_tmp2 Tryz.results30 _ _ _) rfl ?_
    exact ⟨rfl, HB3.out⟩
def arStoreRefA (S : AS) (x i r : Int) : Int × AS := if onC S x = 0 then stRfA S (opO S (gIx x)) i r else (onC S x, S)
set_option maxRecDepth 100000 in
set_option maxHeartbeats 1000000 in
theorem arStoreRefZ (h : AM l S w) (x i : Int) (r : Int) (hr : U64 r) : Calls Tryz.prog 71 #[.pointer (some ⟨l.a, 0, none⟩), .int .u64 x, .int .i64 i, .int .u64 r] w fun e w' => e = .returned (.int .u8 (arStoreRefA S x i r).1) ∧ Hid (AU l w (arStoreRefA S x i r).2 w') := by
  unfold arStoreRefA
  have HO := hid (openZ h x)
  have HA := hid h
  by_cases hc : onC S x = 0
  · obtain ⟨_, _, e1, ho⟩ := onC_ok h hc
    rw [if_pos hc]
    rw [e1, hc] at HO
    generalize opO S (gIx x) = o at *
    have HM := hid (fun wz (hz : AM l S wz) => obSetRefZ hz ho i r hr)
    have HO' : Hid (Calls Tryz.prog 22 #[.pointer (some ⟨l.a, 0, none⟩), .int .u64 x] w fun e w' => e = .returned (.tuple #[.agg #[.pointer (some ⟨l.a, 0, none⟩), .int .i64 (o.k : Int), .int .u64 (o.raw : Int), .int .i64 (o.sz : Int), .int .i64 (o.rf : Int)], .int .u8 0]) ∧ Below w.heap.size w w') := HO
    clear h hc ho e1 HO
    obtain ⟨R, hR⟩ : ∃ R, stRfA S o i r = R := ⟨_, rfl⟩
    rw [hR] at HM ⊢
    clear hR
    go_enter Tryz.func71, Tryz.ntmps71
    go_wp2_with fail
    refine HO'.out.mono ?_
    rintro e w2 ⟨rfl, hb2⟩
    obtain ⟨p, hp⟩ : ∃ p, w2.heap.size = p := ⟨_, rfl⟩
    have HX : Hid (OX w l S p (obL l o) (w2.alloc (.cells #[.pointer (some ⟨l.a, 0, none⟩), .int .i64 (o.k : Int), .int .u64 (o.raw : Int), .int .i64 (o.sz : Int), .int .i64 (o.rf : Int)] 61))) := hid (OX.new (cs := obL l o) (HA.out.below hb2) hb2 hp)
    clear hb2 HO' HA
    go_upto_region 4 with fail
    (try simp only [hp])
    generalize hw3 : w2.alloc _ = w3 at HX ⊢
    clear hw3 hp
    have p0 := HX.out.bk.cell 0
    have p1 := HX.out.bk.cell 1
    have p2 := HX.out.bk.cell 2
    have p3 := HX.out.bk.cell 3
    have p4 := HX.out.bk.cell 4
    simp only [obL, List.getElem?_cons_zero, List.getElem?_cons_succ] at p0 p1 p2 p3 p4
    go_wp2_with fail
    refine (HM.out _ HX.out.am).mono ?_
    rintro e w4 ⟨rfl, HU⟩
    have HF : Hid (AU l w R.2 w4) := hid (HX.out.au.trans HU.out)
    clear HU HX p0 p1 p2 p3 p4 HM
    go_wp2
    go_ret
    exact ⟨rfl, HF⟩
  · rw [if_neg hc]
    rw [onC_no hc] at HO
    have dc : (onC S x == 0) = false := by simpa using hc
    have dc2 : (onC S x != 0) = true := by simp [bne, dc]
    have HO' : Hid (Calls Tryz.prog 22 #[.pointer (some ⟨l.a, 0, none⟩), .int .u64 x] w fun e w' => e = .returned (.tuple #[.agg #[.pointer none, .int .i64 0, .int .u64 0, .int .i64 0, .int .i64 0], .int .u8 (onC S x)]) ∧ Below w.heap.size w w') := HO
    generalize onC S x = c at *
    clear h hc HO
    go_enter Tryz.func71, Tryz.ntmps71
    go_wp2_with fail
    refine HO'.out.mono ?_
    rintro e w2 ⟨rfl, hb2⟩
    have HB3 := hid (hb2.trans ((nbel w2 (.cells #[.pointer none, .int .i64 0, .int .u64 0, .int .i64 0, .int .i64 0] 61)).mono hb2.size))
    clear hb2 HO'
    go_upto_region 3 with fail
    generalize hw3 : w2.alloc _ = w3 at HB3 ⊢
    clear hw3
    go_wp2
    go_ret
    exact ⟨rfl, hid ⟨HA.out.below HB3.out, UL.ofBelow HB3.out⟩⟩
def arStoreDataA (S : AS) (x i r : Int) : Int × AS := if onC S x = 0 then stDtA S (opO S (gIx x)) i r else (onC S x, S)
set_option maxRecDepth 100000 in
set_option maxHeartbeats 1000000 in
theorem arStoreDataZ (h : AM l S w) (x i : Int) (r : Int) (hr : U64 r) : Calls Tryz.prog 72 #[.pointer (some ⟨l.a, 0, none⟩), .int .u64 x, .int .i64 i, .int .u64 r] w fun e w' => e = .returned (.int .u8 (arStoreDataA S x i r).1) ∧ Hid (AU l w (arStoreDataA S x i r).2 w') := by
  unfold arStoreDataA
  have HO := hid (openZ h x)
  have HA := hid h
  by_cases hc : onC S x = 0
  · obtain ⟨_, _, e1, ho⟩ := onC_ok h hc
    rw [if_pos hc]
    rw [e1, hc] at HO
    generalize opO S (gIx x) = o at *
    have HM := hid (fun wz (hz : AM l S wz) => obSetDataZ hz ho i r hr)
    have HO' : Hid (Calls Tryz.prog 22 #[.pointer (some ⟨l.a, 0, none⟩), .int .u64 x] w fun e w' => e = .returned (.tuple #[.agg #[.pointer (some ⟨l.a, 0, none⟩), .int .i64 (o.k : Int), .int .u64 (o.raw : Int), .int .i64 (o.sz : Int), .int .i64 (o.rf : Int)], .int .u8 0]) ∧ Below w.heap.size w w') := HO
    clear h hc ho e1 HO
    obtain ⟨R, hR⟩ : ∃ R, stDtA S o i r = R := ⟨_, rfl⟩
    rw [hR] at HM ⊢
    clear hR
    go_enter Tryz.func72, Tryz.ntmps72
    go_wp2_with fail
    refine HO'.out.mono ?_
    rintro e w2 ⟨rfl, hb2⟩
    obtain ⟨p, hp⟩ : ∃ p, w2.heap.size = p := ⟨_, rfl⟩
    have HX : Hid (OX w l S p (obL l o) (w2.alloc (.cells #[.pointer (some ⟨l.a, 0, none⟩), .int .i64 (o.k : Int), .int .u64 (o.raw : Int), .int .i64 (o.sz : Int), .int .i64 (o.rf : Int)] 61))) := hid (OX.new (cs := obL l o) (HA.out.below hb2) hb2 hp)
    clear hb2 HO' HA
    go_upto_region 4 with fail
    (try simp only [hp])
    generalize hw3 : w2.alloc _ = w3 at HX ⊢
    clear hw3 hp
    have p0 := HX.out.bk.cell 0
    have p1 := HX.out.bk.cell 1
    have p2 := HX.out.bk.cell 2
    have p3 := HX.out.bk.cell 3
    have p4 := HX.out.bk.cell 4
    simp only [obL, List.getElem?_cons_zero, List.getElem?_cons_succ] at p0 p1 p2 p3 p4
    go_wp2_with fail
    refine (HM.out _ HX.out.am).mono ?_
    rintro e w4 ⟨rfl, HU⟩
    have HF : Hid (AU l w R.2 w4) := hid (HX.out.au.trans HU.out)
    clear HU HX p0 p1 p2 p3 p4 HM
    go_wp2
    go_ret
    exact ⟨rfl, HF⟩
  · rw [if_neg hc]
    rw [onC_no hc] at HO
    have dc : (onC S x == 0) = false := by simpa using hc
    have dc2 : (onC S x != 0) = true := by simp [bne, dc]
    have HO' : Hid (Calls Tryz.prog 22 #[.pointer (some ⟨l.a, 0, none⟩), .int .u64 x] w fun e w' => e = .returned (.tuple #[.agg #[.pointer none, .int .i64 0, .int .u64 0, .int .i64 0, .int .i64 0], .int .u8 (onC S x)]) ∧ Below w.heap.size w w') := HO
    generalize onC S x = c at *
    clear h hc HO
    go_enter Tryz.func72, Tryz.ntmps72
    go_wp2_with fail
    refine HO'.out.mono ?_
    rintro e w2 ⟨rfl, hb2⟩
    have HB3 := hid (hb2.trans ((nbel w2 (.cells #[.pointer none, .int .i64 0, .int .u64 0, .int .i64 0, .int .i64 0] 61)).mono hb2.size))
    clear hb2 HO'
    go_upto_region 3 with fail
    generalize hw3 : w2.alloc _ = w3 at HB3 ⊢
    clear hw3
    go_wp2
    go_ret
    exact ⟨rfl, hid ⟨HA.out.below HB3.out, UL.ofBelow HB3.out⟩⟩
set_option maxRecDepth 100000 in
theorem arHeaderZ (h : AM l S w) (x : Int) : Calls Tryz.prog 67 #[.pointer (some ⟨l.a, 0, none⟩), .int .u64 x] w fun e w' => ∃ s r : Int, e = .returned (.tuple #[.agg #[.int .i64 s, .int .i64 r], .int .u8 (onC S x)]) ∧ 0 ≤ s ∧ s ≤ 8192 ∧ 0 ≤ r ∧ r ≤ 8192 ∧ Hid (Below w.heap.size w w') := by
  have HO := hid (openZ h x)
  have hs : ∃ (ap : Option Addr) (k s r : Int) (u : Int), onL l S x = [.pointer ap, .int .i64 k, .int .u64 u, .int .i64 s, .int .i64 r] ∧ 0 ≤ s ∧ s ≤ 8192 ∧ 0 ≤ r ∧ r ≤ 8192 := by
    by_cases hc : onC S x = 0
    · obtain ⟨_, _, e1, ho⟩ := onC_ok h hc
      rw [e1]
      have := ho.s2
      have := ho.rf
      exact ⟨_, _, _, _, _, rfl, by omega, by omega, by omega, by omega⟩
    · rw [onC_no hc]
      exact ⟨_, _, _, _, _, rfl, by decide, by decide, by decide, by decide⟩
  obtain ⟨ap, k, s, r, u, he, h1, h2, h3, h4⟩ := hs
  rw [he] at HO
  have HO' : Hid (Calls Tryz.prog 22 #[.pointer (some ⟨l.a, 0, none⟩), .int .u64 x] w fun e w' => e = .returned (.tuple #[.agg #[.pointer ap, .int .i64 k, .int .u64 u, .int .i64 s, .int .i64 r], .int .u8 (onC S x)]) ∧ Below w.heap.size w w') := HO
  obtain ⟨c, hcx⟩ : ∃ c, onC S x = c := ⟨_, rfl⟩
  rw [hcx] at HO' ⊢
  have HOP := hid (fun (wz : World) (hz : Below w.heap.size w wz) => openZ (h.below hz) x)
  clear h HO
  rw [he, hcx] at HOP
  clear he
  obtain ⟨p, hp⟩ : ∃ p, w.heap.size = p := ⟨_, rfl⟩
  have I0 : Hid ((Tryz.prog.info? 59).map (·.size) = some 2) := hid (by kernel_rfl)
  have Ag : Hid (AggOf Tryz.prog 59 2) := hid (AggOf.struct Tryz.underlying59 (by kernel_rfl))
  have HB : Hid (Below w.heap.size w (w.alloc (.cells #[.int .i64 0, .int .i64 0] 59)) ∧ Blk (w.alloc (.cells #[.int .i64 0, .int .i64 0] 59)) p 59 [.int .i64 0, .int .i64 0] ∧ w.heap.size ≤ p) := hid (by
    have k := Blk.new w [.int .i64 0, .int .i64 0] 59
    rw [hp] at k
    exact ⟨nbel w _, k, by omega⟩)
  have HO2 : Hid (∀ wz, Below w.heap.size w wz → Calls Tryz.prog 22 #[.pointer (some ⟨l.a, 0, none⟩), .int .u64 x] wz fun e w' => e = .returned (.tuple #[.agg #[.pointer ap, .int .i64 k, .int .u64 u, .int .i64 s, .int .i64 r], .int .u8 c]) ∧ Below wz.heap.size wz w') := HOP
  clear HO'
  go_enter Tryz.func67, Tryz.ntmps67
  go_upto_region 1 with fail
  (try simp only [hp])
  generalize hw1 : w.alloc _ = w1 at HB ⊢
  clear hw1 hp
  go_wp2_with fail
  refine (HO2.out _ HB.out.1).mono ?_
  rintro e w2 ⟨rfl, hb2⟩
  have HB2 : Hid (Below w.heap.size w w2 ∧ Blk w2 p 59 [.int .i64 0, .int .i64 0] ∧ w.heap.size ≤ p) := hid ⟨HB.out.1.trans (hb2.mono HB.out.1.size), HB.out.2.1.below hb2, HB.out.2.2⟩
  clear hb2 HB HO2
  obtain ⟨q, hq⟩ : ∃ q, w2.heap.size = q := ⟨_, rfl⟩
  have HB3 : Hid (Below w.heap.size w (w2.alloc (.cells #[.pointer ap, .int .i64 k, .int .u64 u, .int .i64 s, .int .i64 r] 61)) ∧ Blk (w2.alloc (.cells #[.pointer ap, .int .i64 k, .int .u64 u, .int .i64 s, .int .i64 r] 61)) p 59 [.int .i64 0, .int .i64 0] ∧ Blk (w2.alloc (.cells #[.pointer ap, .int .i64 k, .int .u64 u, .int .i64 s, .int .i64 r] 61)) q 61 [.pointer ap, .int .i64 k, .int .u64 u, .int .i64 s, .int .i64 r] ∧ w.heap.size ≤ p) := hid (by
    have kk := Blk.new w2 [.pointer ap, .int .i64 k, .int .u64 u, .int .i64 s, .int .i64 r] 61
    rw [hq] at kk
    exact ⟨HB2.out.1.trans ((nbel w2 _).mono HB2.out.1.size), HB2.out.2.1.below (nbel w2 _), kk, HB2.out.2.2⟩)
  go_upto_region 2 with fail
  (try simp only [hq])
  generalize hw3 : w2.alloc _ = w3 at HB3 ⊢
  clear hw3 hq HB2
  have p3 := HB3.out.2.2.1.cell 3
  have p4 := HB3.out.2.2.1.cell 4
  simp only [List.getElem?_cons_zero, List.getElem?_cons_succ] at p3 p4
  have one : ∀ u ∈ ([.int .i64 s, .int .i64 r] : List Value), u.oneCell' = true := by
    intro u hu
    simp only [List.mem_cons, List.not_mem_nil, or_false] at hu
    rcases hu with rfl | rfl <;> rfl
  go_wp2_with (refine wpList_store_blk rfl 59 _ _ rfl p rfl [.int .i64 s, .int .i64 r] rfl HB3.out.2.1 rfl I0.out one ?_; intro w9 HB9 HU9)
  refine bodyPost_ret (results_cell_tmp (cs := [.int .i64 s, .int .i64 r]) Tryz.results67 rfl Ag.out HB9.out) rfl ?_
  exact ⟨s, r, rfl, h1, h2, h3, h4, hid (HB3.out.1.trans (HU9.out.below HB3.out.2.2.2 HB3.out.1.size))⟩
/-- Format: the code and what becomes of the arena. -/
def formatA (S : AS) (x s r : Int) : Int × AS := if wantO x = 0 then (if hdrCheck s r = 0 then (if lenOut ((2 * gIx x : Nat) : Int) (1 + s) = 0 then (0, (S.tch.putW (2 * gIx x) (encW s r).toNat).zero (2 * gIx x + 1) (2 * gIx x + 1 + s.toNat)) else (lenOut ((2 * gIx x : Nat) : Int) (1 + s), S)) else (hdrCheck s r, S)) else (wantO x, S)
theorem hdr_ok {s r : Int} (h : hdrCheck s r = 0) : 1 ≤ s ∧ s ≤ 8192 ∧ 0 ≤ r ∧ r ≤ s := by
  unfold hdrCheck at h
  split at h
  · omega
  · split at h <;> omega
set_option maxRecDepth 100000 in
set_option maxHeartbeats 1000000 in
theorem formatZ (h : AM l S w) (x s r : Int) : Calls Tryz.prog 66 #[.pointer (some ⟨l.a, 0, none⟩), .int .u64 x, .int .i64 s, .int .i64 r] w fun e w' => e = .returned (.int .u8 (formatA S x s r).1) ∧ Hid (AU l w (formatA S x s r).2 w') := by
  unfold formatA
  have HA := hid h
  by_cases hc : wantO x = 0
  · rw [if_pos hc]
    have HG := hid (granule_g hc w)
    have hg := (gIx_of hc).2.1
    generalize gIx x = g at *
    clear hc h
    by_cases hh : hdrCheck s r = 0
    · rw [if_pos hh]
      obtain ⟨b1, b2, b3, b4⟩ := hdr_ok hh
      have HEn := hid (encode_walk s r w b1 b2 b3 b4)
      have hev := (enc_dec s r b1 b2 b3 b4).2.2.2
      clear hh
      obtain ⟨sn, rfl⟩ : ∃ sn : Nat, s = (sn : Int) := ⟨s.toNat, by omega⟩
      have e2 : (g : Int) * 2 = ((2 * g : Nat) : Int) := by omega
      have hk : 2 * g < 32768 := by omega
      obtain ⟨k, hkk⟩ : ∃ k, 2 * g = k := ⟨_, rfl⟩
      rw [hkk] at e2 hk ⊢
      rw [Int.toNat_natCast]
      have HL := hid (fun wz => checkLength_walk (k : Int) (1 + (sn : Int)) (by omega) (by omega) wz)
      by_cases hl : lenOut (k : Int) (1 + (sn : Int)) = 0
      · as_aux_lemma =>
        rw [if_pos hl]
        rw [hl] at HL
        have hb : 1 + (sn : Int) ≤ 32768 - (k : Int) := by
          unfold lenOut at hl
          split at hl
          · omega
          · split at hl
            · omega
            · omega
        obtain ⟨e, he⟩ : ∃ e : Nat, encW (sn : Int) r = (e : Int) := ⟨(encW (sn : Int) r).toNat, by omega⟩
        rw [he] at HEn hev ⊢
        rw [Int.toNat_natCast]
        have hel : e < 18446744073709551616 := by omega
        have f1 : (k : Int) + 1 = ((k + 1 : Nat) : Int) := by omega
        have f2 : (k : Int) + 1 + (sn : Int) = ((k + 1 + sn : Nat) : Int) := by omega
        have HZ : Hid (∀ wz S1, AU l w S1 wz → Calls Tryz.prog 168 #[.pointer (some ⟨l.a, 0, none⟩), .int .i64 ((k : Int) + 1), .int .i64 ((k : Int) + 1 + (sn : Int))] wz fun e w' => e = .returned (.tuple #[]) ∧ Hid (AU l w (S1.zero (k + 1) (k + 1 + sn)) w')) := hid (fun wz S1 hz => by
          have := zeroZ hz (k + 1) (k + 1 + sn) (by omega) (by omega)
          rw [← f1, ← f2] at this
          exact this)
        clear f1 f2 hl he hkk
        go_enter Tryz.func66, Tryz.ntmps66
        (go_wp2_with fail; refine (HG.out).mono ?_; rintro e_ w_ ⟨he_, hw_⟩; subst he_; have hs_ := hw_.symm; clear hw_; subst hs_)
        go_wp2_with fail
        refine HEn.out.mono ?_
        rintro e w2 ⟨rfl, hb2⟩
        have HA2 := hid (AU.start HA.out |>.below hb2)
        clear hb2 HA HEn
        (go_wp2_with fail; refine ((HL.out w2)).mono ?_; rintro e_ w_ ⟨he_, hw_⟩; subst he_; have hs_ := hw_.symm; clear hw_; subst hs_)
        go_wp2_with fail
        refine (touchZ HA2.out.m).mono ?_
        rintro e w3 ⟨rfl, HU⟩
        have HU3 := hid (HA2.out.trans HU.out)
        clear HU HA2
        have a0 := HU3.out.m.cells.1
        have x0 := HU3.out.m.word hk
        have fz := HU3.out.m.ws.frozen k
        have HF := hid (HU3.out.putW hk hel)
        generalize S.tch.W k = y at x0
        go_upto_region 13 with fail
        clear a0 x0 fz HU3
        generalize hw4 : w3.setCell _ _ = w4 at HF ⊢
        clear hw4
        go_wp2_with fail
        refine (HZ.out _ _ HF.out).mono ?_
        rintro e w5 ⟨rfl, HF5⟩
        clear HF HZ
        go_wp2
        go_ret
        exact ⟨rfl, HF5⟩
      · as_aux_lemma =>
        rw [if_neg hl]
        have dc : (lenOut (k : Int) (1 + (sn : Int)) == 0) = false := by simpa using hl
        have dc2 : (lenOut (k : Int) (1 + (sn : Int)) != 0) = true := by simp [bne, dc]
        generalize lenOut (k : Int) (1 + (sn : Int)) = c at *
        clear hl hkk
        go_enter Tryz.func66, Tryz.ntmps66
        (go_wp2_with fail; refine (HG.out).mono ?_; rintro e_ w_ ⟨he_, hw_⟩; subst he_; have hs_ := hw_.symm; clear hw_; subst hs_)
        go_wp2_with fail
        refine HEn.out.mono ?_
        rintro e w2 ⟨rfl, hb2⟩
        have HA2 := hid (AU.start HA.out |>.below hb2)
        clear hb2 HA HEn
        (go_wp2_with fail; refine ((HL.out w2)).mono ?_; rintro e_ w_ ⟨he_, hw_⟩; subst he_; have hs_ := hw_.symm; clear hw_; subst hs_)
        go_wp2
        go_ret
        exact ⟨rfl, HA2⟩
    · as_aux_lemma =>
      rw [if_neg hh]
      have dc : (hdrCheck s r == 0) = false := by simpa using hh
      have dc2 : (hdrCheck s r != 0) = true := by simp [bne, dc]
      have HEn := hid (encode_bad s r w dc2)
      generalize hdrCheck s r = c at *
      clear hh
      go_enter Tryz.func66, Tryz.ntmps66
      (go_wp2_with fail; refine (HG.out).mono ?_; rintro e_ w_ ⟨he_, hw_⟩; subst he_; have hs_ := hw_.symm; clear hw_; subst hs_)
      go_wp2_with fail
      refine HEn.out.mono ?_
      rintro e w2 ⟨rfl, hb2⟩
      have HA2 := hid (AU.start HA.out |>.below hb2)
      clear hb2 HA HEn
      go_wp2
      go_ret
      exact ⟨rfl, HA2⟩
  · rw [if_neg hc]
    have HG := hid (granule_bad x hc w)
    have dc : (wantO x == 0) = false := by simpa using hc
    have dc2 : (wantO x != 0) = true := by simp [bne, dc]
    generalize wantO x = c at *
    clear h hc
    go_enter Tryz.func66, Tryz.ntmps66
    (go_wp2_with fail; refine (HG.out).mono ?_; rintro e_ w_ ⟨he_, hw_⟩; subst he_; have hs_ := hw_.symm; clear hw_; subst hs_)
    go_wp2
    go_ret
    exact ⟨rfl, hid (AU.start HA.out)⟩
end
end Go.Proofs.Qxb6500887aGreat
