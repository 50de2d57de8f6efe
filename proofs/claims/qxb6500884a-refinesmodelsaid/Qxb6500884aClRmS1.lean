/- The model's Step, kind by kind: those that push one set. -/
import Derived.Test.Qxb6500884aClRmB
import Derived.Test.Qxb6500884aClBld
namespace Go.Proofs.Qxb6500884a
open Go.RowKit
set_option linter.unusedSimpArgs false
set_option linter.unusedVariables false

set_option maxRecDepth 100000 in
set_option maxHeartbeats 2000000 in
theorem ms0_walk (mb : Nat) (a : Option Addr) (G : List (Nat × (Nat → Bool))) (oa ob : Int) (ia : Option Addr) (inn ic : Nat) (iv : List (Int × Int)) (ra : Option Addr) (rn rc : Nat) (rg : List Int) (Ls : List (List (Int × Int))) (w : World) (h : MMach mb a G w) (ho : OpOk w ⟨0, oa, ob, ia, inn, ic, iv, ra, rn, rc, rg⟩) (hR : Rel (G.map (·.2)) Ls) (hN : ∀ l ∈ Ls, Nrm l) (hrn : rn ≤ 65536) :
    Calls Try.prog 25 #[.pointer (some ⟨mb, 0, none⟩), .agg #[.int .i64 0, .int .i64 oa, .int .i64 ob, .slice ia inn ic, .slice ra rn rc]] w fun e w' => MSt mb a G ⟨0, oa, ob, ia, inn, ic, iv, ra, rn, rc, rg⟩ Ls w e w' := by
  have HM := hid h
  have HO := hid ho
  have HRl := hid hR
  have HNl := hid hN
  obtain ⟨q, hq⟩ : ∃ q, w.heap.size = q := ⟨_, rfl⟩
  obtain ⟨r, hr⟩ : ∃ r, q + 1 = r := ⟨_, rfl⟩
  have HS : Hid (S0 w q r [Value.int .i64 0, .int .i64 oa, .int .i64 ob, .slice ia inn ic, .slice ra rn rc] ((w.alloc (.cells #[Value.int .i64 0, .int .i64 oa, .int .i64 ob, .slice ia inn ic, .slice ra rn rc] 28)).alloc (.cells #[.int .i64 0, .bool false, .int .i64 0] 51))) := hid (S0.start w hq hr _)
  clear h ho hR hN
  go_enter Try.func25, Try.ntmps25
  go_upto_region 1 with fail
  generalize (w.alloc (.cells #[Value.int .i64 0, .int .i64 oa, .int .i64 ob, .slice ia inn ic, .slice ra rn rc] 28)).alloc (.cells #[.int .i64 0, .bool false, .int .i64 0] 51) = w1 at HS ⊢
  clear hq hr
  have o0 : w1.cell? ⟨q, 0, none⟩ = some (.int .i64 0) := HS.out.op.cell 0
  have o1 : w1.cell? ⟨q, 1, none⟩ = some (.int .i64 oa) := HS.out.op.cell 1
  have o2 : w1.cell? ⟨q, 2, none⟩ = some (.int .i64 ob) := HS.out.op.cell 2
  have o3 : w1.cell? ⟨q, 3, none⟩ = some (.slice ia inn ic) := HS.out.op.cell 3
  have o4 : w1.cell? ⟨q, 4, none⟩ = some (.slice ra rn rc) := HS.out.op.cell 4
  have HSx := HS
  go_wp2_with fail
  refine (mfrom_walk ia inn ic iv w1 (HO.out.below HS.out.bel).iv).mono ?_
  rintro e w2 ⟨g, rfl, hg, hTb⟩
  have HS2 := hid (HSx.out.below hTb.bel)
  have HT := hid hTb.blk
  clear hg hTb o0 o1 o2 o3 o4
  have HPu := hid (mpush_walk mb a G g (fun i => memB iv (i : Int)) w2 (HM.out.below HS2.out.bel) HT.out)
  go_wp2_with fail
  refine HPu.out.mono ?_
  rintro e w3 hp
  have hrt := hp.ret
  subst hrt
  have HP := hid hp
  have HR3 : Hid (Blk w3 r 51 (resC 0 false 0)) := hid ((HM.out.below HS2.out.bel).blkT hp.upd HS2.out.res (by decide) (by decide))
  clear hp HPu
  have I0 : Hid ((Try.prog.info? 51).map (·.size) = some (resC 1 false 0).length) := hid info_res
  go_wp2_with (refine wpList_store_blk rfl 51 _ _ rfl r rfl (resC 1 false 0) rfl HR3.out rfl I0.out (res_one _ _ _) ?_; intro w9 HB9 HU9)
  exact bodyPost_ret (results_blk Try.results25 rfl (show AggOf Try.prog 51 (List.length (resC 1 false 0)) from aggRes) HB9.out) rfl (MSt.fin1 HS2.out.bel HP.out HS2.out.low HR3.out HU9.out (post_one rfl (fun h => by cases h) (fun x hx => rfl)))
set_option maxRecDepth 100000 in
set_option maxHeartbeats 2000000 in
theorem ms1_walk (mb : Nat) (a : Option Addr) (G : List (Nat × (Nat → Bool))) (oa ob : Int) (ia : Option Addr) (inn ic : Nat) (iv : List (Int × Int)) (ra : Option Addr) (rn rc : Nat) (rg : List Int) (Ls : List (List (Int × Int))) (w : World) (h : MMach mb a G w) (ho : OpOk w ⟨1, oa, ob, ia, inn, ic, iv, ra, rn, rc, rg⟩) (hR : Rel (G.map (·.2)) Ls) (hN : ∀ l ∈ Ls, Nrm l) (hrn : rn ≤ 65536) :
    Calls Try.prog 25 #[.pointer (some ⟨mb, 0, none⟩), .agg #[.int .i64 1, .int .i64 oa, .int .i64 ob, .slice ia inn ic, .slice ra rn rc]] w fun e w' => MSt mb a G ⟨1, oa, ob, ia, inn, ic, iv, ra, rn, rc, rg⟩ Ls w e w' := by
  have HM := hid h
  have HO := hid ho
  have HRl := hid hR
  have HNl := hid hN
  obtain ⟨q, hq⟩ : ∃ q, w.heap.size = q := ⟨_, rfl⟩
  obtain ⟨r, hr⟩ : ∃ r, q + 1 = r := ⟨_, rfl⟩
  have HS : Hid (S0 w q r [Value.int .i64 1, .int .i64 oa, .int .i64 ob, .slice ia inn ic, .slice ra rn rc] ((w.alloc (.cells #[Value.int .i64 1, .int .i64 oa, .int .i64 ob, .slice ia inn ic, .slice ra rn rc] 28)).alloc (.cells #[.int .i64 0, .bool false, .int .i64 0] 51))) := hid (S0.start w hq hr _)
  clear h ho hR hN
  go_enter Try.func25, Try.ntmps25
  go_upto_region 1 with fail
  generalize (w.alloc (.cells #[Value.int .i64 1, .int .i64 oa, .int .i64 ob, .slice ia inn ic, .slice ra rn rc] 28)).alloc (.cells #[.int .i64 0, .bool false, .int .i64 0] 51) = w1 at HS ⊢
  clear hq hr
  have o0 : w1.cell? ⟨q, 0, none⟩ = some (.int .i64 1) := HS.out.op.cell 0
  have o1 : w1.cell? ⟨q, 1, none⟩ = some (.int .i64 oa) := HS.out.op.cell 1
  have o2 : w1.cell? ⟨q, 2, none⟩ = some (.int .i64 ob) := HS.out.op.cell 2
  have o3 : w1.cell? ⟨q, 3, none⟩ = some (.slice ia inn ic) := HS.out.op.cell 3
  have o4 : w1.cell? ⟨q, 4, none⟩ = some (.slice ra rn rc) := HS.out.op.cell 4
  obtain ⟨g0, hg0⟩ : ∃ g0, w1.heap.size = g0 := ⟨_, rfl⟩
  have HIv : Hid (IvRow (w1.alloc (.cells #[.int .i64 oa, .int .i64 ob] 67)) (some ⟨g0, 0, none⟩) 1 1 [(oa, ob)]) := hid (by
    have hb := Blk.new w1 [.int .i64 oa, .int .i64 ob] 67
    rw [hg0] at hb
    exact ivrow_one hb HO.out.fa HO.out.fb)
  have HSx := hid (HS.out.below (nbel w1 (.cells #[.int .i64 oa, .int .i64 ob] 67)))
  go_wp2_with fail
  refine (mfrom_walk (some ⟨g0, 0, none⟩) 1 1 [(oa, ob)] _ HIv.out).mono ?_
  rintro e w2 ⟨g, rfl, hg, hTb⟩
  have HS2 := hid (HSx.out.below hTb.bel)
  have HT := hid hTb.blk
  clear hg hTb o0 o1 o2 o3 o4
  have HPu := hid (mpush_walk mb a G g (fun i => memB [(oa, ob)] (i : Int)) w2 (HM.out.below HS2.out.bel) HT.out)
  go_wp2_with fail
  refine HPu.out.mono ?_
  rintro e w3 hp
  have hrt := hp.ret
  subst hrt
  have HP := hid hp
  have HR3 : Hid (Blk w3 r 51 (resC 0 false 0)) := hid ((HM.out.below HS2.out.bel).blkT hp.upd HS2.out.res (by decide) (by decide))
  clear hp HPu
  have I0 : Hid ((Try.prog.info? 51).map (·.size) = some (resC 1 false 0).length) := hid info_res
  go_wp2_with (refine wpList_store_blk rfl 51 _ _ rfl r rfl (resC 1 false 0) rfl HR3.out rfl I0.out (res_one _ _ _) ?_; intro w9 HB9 HU9)
  exact bodyPost_ret (results_blk Try.results25 rfl (show AggOf Try.prog 51 (List.length (resC 1 false 0)) from aggRes) HB9.out) rfl (MSt.fin1 HS2.out.bel HP.out HS2.out.low HR3.out HU9.out (post_one rfl (fun h => by cases h) (fun x hx => memB_one _ _)))
set_option maxRecDepth 100000 in
set_option maxHeartbeats 2000000 in
theorem ms2_walk (mb : Nat) (a : Option Addr) (G : List (Nat × (Nat → Bool))) (oa ob : Int) (ia : Option Addr) (inn ic : Nat) (iv : List (Int × Int)) (ra : Option Addr) (rn rc : Nat) (rg : List Int) (Ls : List (List (Int × Int))) (w : World) (h : MMach mb a G w) (ho : OpOk w ⟨2, oa, ob, ia, inn, ic, iv, ra, rn, rc, rg⟩) (hR : Rel (G.map (·.2)) Ls) (hN : ∀ l ∈ Ls, Nrm l) (hrn : rn ≤ 65536) :
    Calls Try.prog 25 #[.pointer (some ⟨mb, 0, none⟩), .agg #[.int .i64 2, .int .i64 oa, .int .i64 ob, .slice ia inn ic, .slice ra rn rc]] w fun e w' => MSt mb a G ⟨2, oa, ob, ia, inn, ic, iv, ra, rn, rc, rg⟩ Ls w e w' := by
  have HM := hid h
  have HO := hid ho
  have HRl := hid hR
  have HNl := hid hN
  obtain ⟨q, hq⟩ : ∃ q, w.heap.size = q := ⟨_, rfl⟩
  obtain ⟨r, hr⟩ : ∃ r, q + 1 = r := ⟨_, rfl⟩
  have HS : Hid (S0 w q r [Value.int .i64 2, .int .i64 oa, .int .i64 ob, .slice ia inn ic, .slice ra rn rc] ((w.alloc (.cells #[Value.int .i64 2, .int .i64 oa, .int .i64 ob, .slice ia inn ic, .slice ra rn rc] 28)).alloc (.cells #[.int .i64 0, .bool false, .int .i64 0] 51))) := hid (S0.start w hq hr _)
  clear h ho hR hN
  go_enter Try.func25, Try.ntmps25
  go_upto_region 1 with fail
  generalize (w.alloc (.cells #[Value.int .i64 2, .int .i64 oa, .int .i64 ob, .slice ia inn ic, .slice ra rn rc] 28)).alloc (.cells #[.int .i64 0, .bool false, .int .i64 0] 51) = w1 at HS ⊢
  clear hq hr
  have o0 : w1.cell? ⟨q, 0, none⟩ = some (.int .i64 2) := HS.out.op.cell 0
  have o1 : w1.cell? ⟨q, 1, none⟩ = some (.int .i64 oa) := HS.out.op.cell 1
  have o2 : w1.cell? ⟨q, 2, none⟩ = some (.int .i64 ob) := HS.out.op.cell 2
  have o3 : w1.cell? ⟨q, 3, none⟩ = some (.slice ia inn ic) := HS.out.op.cell 3
  have o4 : w1.cell? ⟨q, 4, none⟩ = some (.slice ra rn rc) := HS.out.op.cell 4
  obtain ⟨g0, hg0⟩ : ∃ g0, w1.heap.size = g0 := ⟨_, rfl⟩
  have HIv : Hid (IvRow (w1.alloc (.cells #[.int .i64 oa, .int .i64 oa] 67)) (some ⟨g0, 0, none⟩) 1 1 [(oa, oa)]) := hid (by
    have hb := Blk.new w1 [.int .i64 oa, .int .i64 oa] 67
    rw [hg0] at hb
    exact ivrow_one hb HO.out.fa HO.out.fa)
  have HSx := hid (HS.out.below (nbel w1 (.cells #[.int .i64 oa, .int .i64 oa] 67)))
  go_wp2_with fail
  refine (mfrom_walk (some ⟨g0, 0, none⟩) 1 1 [(oa, oa)] _ HIv.out).mono ?_
  rintro e w2 ⟨g, rfl, hg, hTb⟩
  have HS2 := hid (HSx.out.below hTb.bel)
  have HT := hid hTb.blk
  clear hg hTb o0 o1 o2 o3 o4
  have HPu := hid (mpush_walk mb a G g (fun i => memB [(oa, oa)] (i : Int)) w2 (HM.out.below HS2.out.bel) HT.out)
  go_wp2_with fail
  refine HPu.out.mono ?_
  rintro e w3 hp
  have hrt := hp.ret
  subst hrt
  have HP := hid hp
  have HR3 : Hid (Blk w3 r 51 (resC 0 false 0)) := hid ((HM.out.below HS2.out.bel).blkT hp.upd HS2.out.res (by decide) (by decide))
  clear hp HPu
  have I0 : Hid ((Try.prog.info? 51).map (·.size) = some (resC 1 false 0).length) := hid info_res
  go_wp2_with (refine wpList_store_blk rfl 51 _ _ rfl r rfl (resC 1 false 0) rfl HR3.out rfl I0.out (res_one _ _ _) ?_; intro w9 HB9 HU9)
  exact bodyPost_ret (results_blk Try.results25 rfl (show AggOf Try.prog 51 (List.length (resC 1 false 0)) from aggRes) HB9.out) rfl (MSt.fin1 HS2.out.bel HP.out HS2.out.low HR3.out HU9.out (post_one rfl (fun h => by cases h) (fun x hx => memB_one _ _)))
set_option maxRecDepth 100000 in
set_option maxHeartbeats 2000000 in
theorem ms4_walk (mb : Nat) (a : Option Addr) (G : List (Nat × (Nat → Bool))) (oa ob : Int) (ia : Option Addr) (inn ic : Nat) (iv : List (Int × Int)) (ra : Option Addr) (rn rc : Nat) (rg : List Int) (Ls : List (List (Int × Int))) (w : World) (h : MMach mb a G w) (ho : OpOk w ⟨4, oa, ob, ia, inn, ic, iv, ra, rn, rc, rg⟩) (hR : Rel (G.map (·.2)) Ls) (hN : ∀ l ∈ Ls, Nrm l) (hrn : rn ≤ 65536) :
    Calls Try.prog 25 #[.pointer (some ⟨mb, 0, none⟩), .agg #[.int .i64 4, .int .i64 oa, .int .i64 ob, .slice ia inn ic, .slice ra rn rc]] w fun e w' => MSt mb a G ⟨4, oa, ob, ia, inn, ic, iv, ra, rn, rc, rg⟩ Ls w e w' := by
  have HM := hid h
  have HO := hid ho
  have HRl := hid hR
  have HNl := hid hN
  obtain ⟨q, hq⟩ : ∃ q, w.heap.size = q := ⟨_, rfl⟩
  obtain ⟨r, hr⟩ : ∃ r, q + 1 = r := ⟨_, rfl⟩
  have HS : Hid (S0 w q r [Value.int .i64 4, .int .i64 oa, .int .i64 ob, .slice ia inn ic, .slice ra rn rc] ((w.alloc (.cells #[Value.int .i64 4, .int .i64 oa, .int .i64 ob, .slice ia inn ic, .slice ra rn rc] 28)).alloc (.cells #[.int .i64 0, .bool false, .int .i64 0] 51))) := hid (S0.start w hq hr _)
  clear h ho hR hN
  go_enter Try.func25, Try.ntmps25
  go_upto_region 1 with fail
  generalize (w.alloc (.cells #[Value.int .i64 4, .int .i64 oa, .int .i64 ob, .slice ia inn ic, .slice ra rn rc] 28)).alloc (.cells #[.int .i64 0, .bool false, .int .i64 0] 51) = w1 at HS ⊢
  clear hq hr
  have o0 : w1.cell? ⟨q, 0, none⟩ = some (.int .i64 4) := HS.out.op.cell 0
  have o1 : w1.cell? ⟨q, 1, none⟩ = some (.int .i64 oa) := HS.out.op.cell 1
  have o2 : w1.cell? ⟨q, 2, none⟩ = some (.int .i64 ob) := HS.out.op.cell 2
  have o3 : w1.cell? ⟨q, 3, none⟩ = some (.slice ia inn ic) := HS.out.op.cell 3
  have o4 : w1.cell? ⟨q, 4, none⟩ = some (.slice ra rn rc) := HS.out.op.cell 4
  obtain ⟨g0, hg0⟩ : ∃ g0, w1.heap.size = g0 := ⟨_, rfl⟩
  have HIv : Hid (IvRow (w1.alloc (.cells #[.int .i64 0, .int .i64 196607] 67)) (some ⟨g0, 0, none⟩) 1 1 [(0, 196607)]) := hid (by
    have hb := Blk.new w1 [.int .i64 0, .int .i64 196607] 67
    rw [hg0] at hb
    exact ivrow_one hb (by unfold Fit; omega) (by unfold Fit; omega))
  have HSx := hid (HS.out.below (nbel w1 (.cells #[.int .i64 0, .int .i64 196607] 67)))
  go_wp2_with fail
  refine (mfrom_walk (some ⟨g0, 0, none⟩) 1 1 [(0, 196607)] _ HIv.out).mono ?_
  rintro e w2 ⟨g, rfl, hg, hTb⟩
  have HS2 := hid (HSx.out.below hTb.bel)
  have HT := hid hTb.blk
  clear hg hTb o0 o1 o2 o3 o4
  have HPu := hid (mpush_walk mb a G g (fun i => memB [(0, 196607)] (i : Int)) w2 (HM.out.below HS2.out.bel) HT.out)
  go_wp2_with fail
  refine HPu.out.mono ?_
  rintro e w3 hp
  have hrt := hp.ret
  subst hrt
  have HP := hid hp
  have HR3 : Hid (Blk w3 r 51 (resC 0 false 0)) := hid ((HM.out.below HS2.out.bel).blkT hp.upd HS2.out.res (by decide) (by decide))
  clear hp HPu
  have I0 : Hid ((Try.prog.info? 51).map (·.size) = some (resC 1 false 0).length) := hid info_res
  go_wp2_with (refine wpList_store_blk rfl 51 _ _ rfl r rfl (resC 1 false 0) rfl HR3.out rfl I0.out (res_one _ _ _) ?_; intro w9 HB9 HU9)
  exact bodyPost_ret (results_blk Try.results25 rfl (show AggOf Try.prog 51 (List.length (resC 1 false 0)) from aggRes) HB9.out) rfl (MSt.fin1 HS2.out.bel HP.out HS2.out.low HR3.out HU9.out (post_one rfl (fun h => by cases h) (fun x hx => by rw [memB_one]; simp; omega)))
set_option maxRecDepth 100000 in
set_option maxHeartbeats 2000000 in
theorem ms3_walk (mb : Nat) (a : Option Addr) (G : List (Nat × (Nat → Bool))) (oa ob : Int) (ia : Option Addr) (inn ic : Nat) (iv : List (Int × Int)) (ra : Option Addr) (rn rc : Nat) (rg : List Int) (Ls : List (List (Int × Int))) (w : World) (h : MMach mb a G w) (ho : OpOk w ⟨3, oa, ob, ia, inn, ic, iv, ra, rn, rc, rg⟩) (hR : Rel (G.map (·.2)) Ls) (hN : ∀ l ∈ Ls, Nrm l) (hrn : rn ≤ 65536) :
    Calls Try.prog 25 #[.pointer (some ⟨mb, 0, none⟩), .agg #[.int .i64 3, .int .i64 oa, .int .i64 ob, .slice ia inn ic, .slice ra rn rc]] w fun e w' => MSt mb a G ⟨3, oa, ob, ia, inn, ic, iv, ra, rn, rc, rg⟩ Ls w e w' := by
  have HM := hid h
  have HO := hid ho
  have HRl := hid hR
  have HNl := hid hN
  obtain ⟨q, hq⟩ : ∃ q, w.heap.size = q := ⟨_, rfl⟩
  obtain ⟨r, hr⟩ : ∃ r, q + 1 = r := ⟨_, rfl⟩
  have HS : Hid (S0 w q r [Value.int .i64 3, .int .i64 oa, .int .i64 ob, .slice ia inn ic, .slice ra rn rc] ((w.alloc (.cells #[Value.int .i64 3, .int .i64 oa, .int .i64 ob, .slice ia inn ic, .slice ra rn rc] 28)).alloc (.cells #[.int .i64 0, .bool false, .int .i64 0] 51))) := hid (S0.start w hq hr _)
  clear h ho hR hN
  go_enter Try.func25, Try.ntmps25
  go_upto_region 1 with fail
  generalize (w.alloc (.cells #[Value.int .i64 3, .int .i64 oa, .int .i64 ob, .slice ia inn ic, .slice ra rn rc] 28)).alloc (.cells #[.int .i64 0, .bool false, .int .i64 0] 51) = w1 at HS ⊢
  clear hq hr
  have o0 : w1.cell? ⟨q, 0, none⟩ = some (.int .i64 3) := HS.out.op.cell 0
  have o1 : w1.cell? ⟨q, 1, none⟩ = some (.int .i64 oa) := HS.out.op.cell 1
  have o2 : w1.cell? ⟨q, 2, none⟩ = some (.int .i64 ob) := HS.out.op.cell 2
  have o3 : w1.cell? ⟨q, 3, none⟩ = some (.slice ia inn ic) := HS.out.op.cell 3
  have o4 : w1.cell? ⟨q, 4, none⟩ = some (.slice ra rn rc) := HS.out.op.cell 4
  obtain ⟨g, hg⟩ : ∃ g, w1.heap.size = g := ⟨_, rfl⟩
  have HNn := hid (none_walk w1)
  rw [hg] at HNn
  have HS2 := hid (HS.out.below (nbel w1 (.cells (tabL fun _ => false).toArray 4)))
  have HT : Hid (Blk (w1.alloc (.cells (tabL fun _ => false).toArray 4)) g 4 (tabL fun _ => false)) := hid (by have := Blk.new w1 (tabL fun _ => false) 4; rw [hg] at this; exact this)
  go_wp2_with fail
  refine HNn.out.mono ?_
  rintro e w2 ⟨rfl, rfl⟩
  generalize w1.alloc (.cells (tabL fun _ => false).toArray 4) = w2 at HS2 HT ⊢
  clear o0 o1 o2 o3 o4 hg HNn
  have HPu := hid (mpush_walk mb a G g (fun _ => false) w2 (HM.out.below HS2.out.bel) HT.out)
  go_wp2_with fail
  refine HPu.out.mono ?_
  rintro e w3 hp
  have hrt := hp.ret
  subst hrt
  have HP := hid hp
  have HR3 : Hid (Blk w3 r 51 (resC 0 false 0)) := hid ((HM.out.below HS2.out.bel).blkT hp.upd HS2.out.res (by decide) (by decide))
  clear hp HPu
  have I0 : Hid ((Try.prog.info? 51).map (·.size) = some (resC 1 false 0).length) := hid info_res
  go_wp2_with (refine wpList_store_blk rfl 51 _ _ rfl r rfl (resC 1 false 0) rfl HR3.out rfl I0.out (res_one _ _ _) ?_; intro w9 HB9 HU9)
  exact bodyPost_ret (results_blk Try.results25 rfl (show AggOf Try.prog 51 (List.length (resC 1 false 0)) from aggRes) HB9.out) rfl (MSt.fin1 HS2.out.bel HP.out HS2.out.low HR3.out HU9.out (post_one rfl (fun h => by cases h) (fun x hx => rfl)))
set_option maxRecDepth 100000 in
set_option maxHeartbeats 2000000 in
theorem ms5_walk (mb : Nat) (a : Option Addr) (G : List (Nat × (Nat → Bool))) (oa ob : Int) (ia : Option Addr) (inn ic : Nat) (iv : List (Int × Int)) (ra : Option Addr) (rn rc : Nat) (rg : List Int) (Ls : List (List (Int × Int))) (w : World) (h : MMach mb a G w) (ho : OpOk w ⟨5, oa, ob, ia, inn, ic, iv, ra, rn, rc, rg⟩) (hR : Rel (G.map (·.2)) Ls) (hN : ∀ l ∈ Ls, Nrm l) (h0 : 0 < G.length) (hrn : rn ≤ 65536) :
    Calls Try.prog 25 #[.pointer (some ⟨mb, 0, none⟩), .agg #[.int .i64 5, .int .i64 oa, .int .i64 ob, .slice ia inn ic, .slice ra rn rc]] w fun e w' => MSt mb a G ⟨5, oa, ob, ia, inn, ic, iv, ra, rn, rc, rg⟩ Ls w e w' := by
  have HM := hid h
  have HO := hid ho
  have HRl := hid hR
  have HNl := hid hN
  obtain ⟨q, hq⟩ : ∃ q, w.heap.size = q := ⟨_, rfl⟩
  obtain ⟨r, hr⟩ : ∃ r, q + 1 = r := ⟨_, rfl⟩
  have HS : Hid (S0 w q r [Value.int .i64 5, .int .i64 oa, .int .i64 ob, .slice ia inn ic, .slice ra rn rc] ((w.alloc (.cells #[Value.int .i64 5, .int .i64 oa, .int .i64 ob, .slice ia inn ic, .slice ra rn rc] 28)).alloc (.cells #[.int .i64 0, .bool false, .int .i64 0] 51))) := hid (S0.start w hq hr _)
  clear h ho hR hN
  go_enter Try.func25, Try.ntmps25
  go_upto_region 1 with fail
  generalize (w.alloc (.cells #[Value.int .i64 5, .int .i64 oa, .int .i64 ob, .slice ia inn ic, .slice ra rn rc] 28)).alloc (.cells #[.int .i64 0, .bool false, .int .i64 0] 51) = w1 at HS ⊢
  clear hq hr
  have o0 : w1.cell? ⟨q, 0, none⟩ = some (.int .i64 5) := HS.out.op.cell 0
  have o1 : w1.cell? ⟨q, 1, none⟩ = some (.int .i64 oa) := HS.out.op.cell 1
  have o2 : w1.cell? ⟨q, 2, none⟩ = some (.int .i64 ob) := HS.out.op.cell 2
  have o3 : w1.cell? ⟨q, 3, none⟩ = some (.slice ia inn ic) := HS.out.op.cell 3
  have o4 : w1.cell? ⟨q, 4, none⟩ = some (.slice ra rn rc) := HS.out.op.cell 4
  obtain ⟨p1, hp1, hf1⟩ := HRl.out.reg h0 oa
  obtain ⟨p2, hp2, hf2⟩ := HRl.out.reg h0 ob
  have HF1 := hid hf1
  have HF2 := hid hf2
  have hL0 : 0 < Ls.length := by have := HRl.out.len; rw [List.length_map] at this; omega
  have HN1 := hid (HNl.out _ (regL_mem hL0 oa))
  have HN2 := hid (HNl.out _ (regL_mem hL0 ob))
  have HG1 : Hid (∀ w2, Below w.heap.size w w2 → Blk w2 p1.1 4 (tabL p1.2)) := hid (fun w2 hb => (HM.out.tabs p1 (List.mem_of_getElem? hp1)).below hb)
  have HG2 : Hid (∀ w2, Below w.heap.size w w2 → Blk w2 p2.1 4 (tabL p2.2)) := hid (fun w2 hb => (HM.out.tabs p2 (List.mem_of_getElem? hp2)).below hb)
  have HRg1 : Hid (∀ w2, Below w.heap.size w w2 → Calls Try.prog 63 #[.pointer (some ⟨mb, 0, none⟩), .int .i64 oa] w2 fun e w3 => e = .returned (.slice (some ⟨p1.1, 0, none⟩) 196608 196608) ∧ Below w2.heap.size w2 w3) := hid (fun w2 hb => mreg_walk mb a G oa p1 w2 (HM.out.below hb) HO.out.fa h0 hp1)
  have HRg2 : Hid (∀ w2, Below w.heap.size w w2 → Calls Try.prog 63 #[.pointer (some ⟨mb, 0, none⟩), .int .i64 ob] w2 fun e w3 => e = .returned (.slice (some ⟨p2.1, 0, none⟩) 196608 196608) ∧ Below w2.heap.size w2 w3) := hid (fun w2 hb => mreg_walk mb a G ob p2 w2 (HM.out.below hb) HO.out.fb h0 hp2)
  obtain ⟨N, hNN⟩ : ∃ N, G.length = N := ⟨_, rfl⟩
  obtain ⟨mc, hmc, _⟩ := (HM.out.below HS.out.bel).out
  rw [hNN] at hmc
  have cm : w1.cell? ⟨mb, 0, none⟩ = some (.slice a N mc) := hmc.cell 0
  have dN : ((N : Int) == 0) = false := by rw [beq_eq_false_iff_ne]; omega
  clear hp1 hp2 hf1 hf2 hNN hmc
  go_upto_region 60 with fail
  obtain ⟨X, W, hT, hI⟩ := class_mk (fun w2 => S0 w q r [Value.int .i64 5, .int .i64 oa, .int .i64 ob, .slice ia inn ic, .slice ra rn rc] w2)
  have HCl : Hid (∀ x w2, Below (W x).heap.size (W x) w2 → ∃ y, w2 = W y) := hid (fun x w2 hb => hI _ ((hT x).below hb))
  have H0 : Hid (∃ x, w1.drew = W x) := hid (hI _ (HS.out.below (Drew.below ⟨1, rfl⟩ _)))
  have hne : Nonempty X := ⟨H0.out.choose⟩
  have e1 : ∀ x, (W x).cell? ⟨q, 1, none⟩ = some (.int .i64 oa) := fun x => (hT x).op.cell 1
  have e2 : ∀ x, (W x).cell? ⟨q, 2, none⟩ = some (.int .i64 ob) := fun x => (hT x).op.cell 2
  have HC1 : Hid (∀ x, Calls Try.prog 63 #[.pointer (some ⟨mb, 0, none⟩), .int .i64 oa] (W x) fun e w3 => e = .returned (.slice (some ⟨p1.1, 0, none⟩) 196608 196608) ∧ Below (W x).heap.size (W x) w3) := hid (fun x => HRg1.out _ (hT x).bel)
  have HC2 : Hid (∀ x, Calls Try.prog 63 #[.pointer (some ⟨mb, 0, none⟩), .int .i64 ob] (W x) fun e w3 => e = .returned (.slice (some ⟨p2.1, 0, none⟩) 196608 196608) ∧ Below (W x).heap.size (W x) w3) := hid (fun x => HRg2.out _ (hT x).bel)
  have HTT := hid hT
  clear hT hI o0 o1 o2 o3 o4 cm dN HRg1 HRg2
  refine wp_region_class W rfl (by kernel_rfl) H0.out ?_
  repeat (go_big_quiet_step ((go_at_call 63; first | (with_reducible exact Calls.class_of HCl.out (HC1.out _)) | (with_reducible exact Calls.class_of HCl.out (HC2.out _)))))
  refine wpQuiet_nil ?_
  intro z
  have HS1 := hid (HTT.out z)
  generalize W z = wz at HS1 ⊢
  clear e1 e2 HCl H0 HTT HC1 HC2 hne HS
  have o0 : wz.cell? ⟨q, 0, none⟩ = some (.int .i64 5) := HS1.out.op.cell 0
  have o2 : wz.cell? ⟨q, 2, none⟩ = some (.int .i64 ob) := HS1.out.op.cell 2
  go_wp2_with fail
  refine (comb2_walk p1.1 p2.1 p1.2 p2.2 wz (HG1.out wz HS1.out.bel) (HG2.out wz HS1.out.bel)).mono ?_
  rintro e w2 ⟨g, rfl, hg, hTb⟩
  have HS2 := hid (HS1.out.below hTb.bel)
  have HT : Hid (Blk w2 g 4 (tabL fun i => p1.2 i || p2.2 i)) := hid hTb.blk
  clear hg hTb o0 o2
  have HPu := hid (mpush_walk mb a G g (fun i => p1.2 i || p2.2 i) w2 (HM.out.below HS2.out.bel) HT.out)
  go_wp2_with fail
  refine HPu.out.mono ?_
  rintro e w3 hp
  have hrt := hp.ret
  subst hrt
  have HP := hid hp
  have HR3 : Hid (Blk w3 r 51 (resC 0 false 0)) := hid ((HM.out.below HS2.out.bel).blkT hp.upd HS2.out.res (by decide) (by decide))
  clear hp HPu
  have I0 : Hid ((Try.prog.info? 51).map (·.size) = some (resC 1 false 0).length) := hid info_res
  go_wp2_with (refine wpList_store_blk rfl 51 _ _ rfl r rfl (resC 1 false 0) rfl HR3.out rfl I0.out (res_one _ _ _) ?_; intro w9 HB9 HU9)
  exact bodyPost_ret (results_blk Try.results25 rfl (show AggOf Try.prog 51 (List.length (resC 1 false 0)) from aggRes) HB9.out) rfl (MSt.fin1 HS2.out.bel HP.out HS2.out.low HR3.out HU9.out (post_one rfl (fun _ => HRl.out.ne h0) (fun x hx => by show (p1.2 x || p2.2 x) = _; rw [HF1.out x hx, HF2.out x hx])))
set_option maxRecDepth 100000 in
set_option maxHeartbeats 2000000 in
theorem ms6_walk (mb : Nat) (a : Option Addr) (G : List (Nat × (Nat → Bool))) (oa ob : Int) (ia : Option Addr) (inn ic : Nat) (iv : List (Int × Int)) (ra : Option Addr) (rn rc : Nat) (rg : List Int) (Ls : List (List (Int × Int))) (w : World) (h : MMach mb a G w) (ho : OpOk w ⟨6, oa, ob, ia, inn, ic, iv, ra, rn, rc, rg⟩) (hR : Rel (G.map (·.2)) Ls) (hN : ∀ l ∈ Ls, Nrm l) (h0 : 0 < G.length) (hrn : rn ≤ 65536) :
    Calls Try.prog 25 #[.pointer (some ⟨mb, 0, none⟩), .agg #[.int .i64 6, .int .i64 oa, .int .i64 ob, .slice ia inn ic, .slice ra rn rc]] w fun e w' => MSt mb a G ⟨6, oa, ob, ia, inn, ic, iv, ra, rn, rc, rg⟩ Ls w e w' := by
  have HM := hid h
  have HO := hid ho
  have HRl := hid hR
  have HNl := hid hN
  obtain ⟨q, hq⟩ : ∃ q, w.heap.size = q := ⟨_, rfl⟩
  obtain ⟨r, hr⟩ : ∃ r, q + 1 = r := ⟨_, rfl⟩
  have HS : Hid (S0 w q r [Value.int .i64 6, .int .i64 oa, .int .i64 ob, .slice ia inn ic, .slice ra rn rc] ((w.alloc (.cells #[Value.int .i64 6, .int .i64 oa, .int .i64 ob, .slice ia inn ic, .slice ra rn rc] 28)).alloc (.cells #[.int .i64 0, .bool false, .int .i64 0] 51))) := hid (S0.start w hq hr _)
  clear h ho hR hN
  go_enter Try.func25, Try.ntmps25
  go_upto_region 1 with fail
  generalize (w.alloc (.cells #[Value.int .i64 6, .int .i64 oa, .int .i64 ob, .slice ia inn ic, .slice ra rn rc] 28)).alloc (.cells #[.int .i64 0, .bool false, .int .i64 0] 51) = w1 at HS ⊢
  clear hq hr
  have o0 : w1.cell? ⟨q, 0, none⟩ = some (.int .i64 6) := HS.out.op.cell 0
  have o1 : w1.cell? ⟨q, 1, none⟩ = some (.int .i64 oa) := HS.out.op.cell 1
  have o2 : w1.cell? ⟨q, 2, none⟩ = some (.int .i64 ob) := HS.out.op.cell 2
  have o3 : w1.cell? ⟨q, 3, none⟩ = some (.slice ia inn ic) := HS.out.op.cell 3
  have o4 : w1.cell? ⟨q, 4, none⟩ = some (.slice ra rn rc) := HS.out.op.cell 4
  obtain ⟨p1, hp1, hf1⟩ := HRl.out.reg h0 oa
  obtain ⟨p2, hp2, hf2⟩ := HRl.out.reg h0 ob
  have HF1 := hid hf1
  have HF2 := hid hf2
  have hL0 : 0 < Ls.length := by have := HRl.out.len; rw [List.length_map] at this; omega
  have HN1 := hid (HNl.out _ (regL_mem hL0 oa))
  have HN2 := hid (HNl.out _ (regL_mem hL0 ob))
  have HG1 : Hid (∀ w2, Below w.heap.size w w2 → Blk w2 p1.1 4 (tabL p1.2)) := hid (fun w2 hb => (HM.out.tabs p1 (List.mem_of_getElem? hp1)).below hb)
  have HG2 : Hid (∀ w2, Below w.heap.size w w2 → Blk w2 p2.1 4 (tabL p2.2)) := hid (fun w2 hb => (HM.out.tabs p2 (List.mem_of_getElem? hp2)).below hb)
  have HRg1 : Hid (∀ w2, Below w.heap.size w w2 → Calls Try.prog 63 #[.pointer (some ⟨mb, 0, none⟩), .int .i64 oa] w2 fun e w3 => e = .returned (.slice (some ⟨p1.1, 0, none⟩) 196608 196608) ∧ Below w2.heap.size w2 w3) := hid (fun w2 hb => mreg_walk mb a G oa p1 w2 (HM.out.below hb) HO.out.fa h0 hp1)
  have HRg2 : Hid (∀ w2, Below w.heap.size w w2 → Calls Try.prog 63 #[.pointer (some ⟨mb, 0, none⟩), .int .i64 ob] w2 fun e w3 => e = .returned (.slice (some ⟨p2.1, 0, none⟩) 196608 196608) ∧ Below w2.heap.size w2 w3) := hid (fun w2 hb => mreg_walk mb a G ob p2 w2 (HM.out.below hb) HO.out.fb h0 hp2)
  obtain ⟨N, hNN⟩ : ∃ N, G.length = N := ⟨_, rfl⟩
  obtain ⟨mc, hmc, _⟩ := (HM.out.below HS.out.bel).out
  rw [hNN] at hmc
  have cm : w1.cell? ⟨mb, 0, none⟩ = some (.slice a N mc) := hmc.cell 0
  have dN : ((N : Int) == 0) = false := by rw [beq_eq_false_iff_ne]; omega
  clear hp1 hp2 hf1 hf2 hNN hmc
  go_upto_region 60 with fail
  obtain ⟨X, W, hT, hI⟩ := class_mk (fun w2 => S0 w q r [Value.int .i64 6, .int .i64 oa, .int .i64 ob, .slice ia inn ic, .slice ra rn rc] w2)
  have HCl : Hid (∀ x w2, Below (W x).heap.size (W x) w2 → ∃ y, w2 = W y) := hid (fun x w2 hb => hI _ ((hT x).below hb))
  have H0 : Hid (∃ x, w1.drew = W x) := hid (hI _ (HS.out.below (Drew.below ⟨1, rfl⟩ _)))
  have hne : Nonempty X := ⟨H0.out.choose⟩
  have e1 : ∀ x, (W x).cell? ⟨q, 1, none⟩ = some (.int .i64 oa) := fun x => (hT x).op.cell 1
  have e2 : ∀ x, (W x).cell? ⟨q, 2, none⟩ = some (.int .i64 ob) := fun x => (hT x).op.cell 2
  have HC1 : Hid (∀ x, Calls Try.prog 63 #[.pointer (some ⟨mb, 0, none⟩), .int .i64 oa] (W x) fun e w3 => e = .returned (.slice (some ⟨p1.1, 0, none⟩) 196608 196608) ∧ Below (W x).heap.size (W x) w3) := hid (fun x => HRg1.out _ (hT x).bel)
  have HC2 : Hid (∀ x, Calls Try.prog 63 #[.pointer (some ⟨mb, 0, none⟩), .int .i64 ob] (W x) fun e w3 => e = .returned (.slice (some ⟨p2.1, 0, none⟩) 196608 196608) ∧ Below (W x).heap.size (W x) w3) := hid (fun x => HRg2.out _ (hT x).bel)
  have HTT := hid hT
  clear hT hI o0 o1 o2 o3 o4 cm dN HRg1 HRg2
  refine wp_region_class W rfl (by kernel_rfl) H0.out ?_
  repeat (go_big_quiet_step ((go_at_call 63; first | (with_reducible exact Calls.class_of HCl.out (HC1.out _)) | (with_reducible exact Calls.class_of HCl.out (HC2.out _)))))
  refine wpQuiet_nil ?_
  intro z
  have HS1 := hid (HTT.out z)
  generalize W z = wz at HS1 ⊢
  clear e1 e2 HCl H0 HTT HC1 HC2 hne HS
  have o0 : wz.cell? ⟨q, 0, none⟩ = some (.int .i64 6) := HS1.out.op.cell 0
  have o2 : wz.cell? ⟨q, 2, none⟩ = some (.int .i64 ob) := HS1.out.op.cell 2
  go_wp2_with fail
  refine (comb3_walk p1.1 p2.1 p1.2 p2.2 wz (HG1.out wz HS1.out.bel) (HG2.out wz HS1.out.bel)).mono ?_
  rintro e w2 ⟨g, rfl, hg, hTb⟩
  have HS2 := hid (HS1.out.below hTb.bel)
  have HT : Hid (Blk w2 g 4 (tabL fun i => p1.2 i && p2.2 i)) := hid hTb.blk
  clear hg hTb o0 o2
  have HPu := hid (mpush_walk mb a G g (fun i => p1.2 i && p2.2 i) w2 (HM.out.below HS2.out.bel) HT.out)
  go_wp2_with fail
  refine HPu.out.mono ?_
  rintro e w3 hp
  have hrt := hp.ret
  subst hrt
  have HP := hid hp
  have HR3 : Hid (Blk w3 r 51 (resC 0 false 0)) := hid ((HM.out.below HS2.out.bel).blkT hp.upd HS2.out.res (by decide) (by decide))
  clear hp HPu
  have I0 : Hid ((Try.prog.info? 51).map (·.size) = some (resC 1 false 0).length) := hid info_res
  go_wp2_with (refine wpList_store_blk rfl 51 _ _ rfl r rfl (resC 1 false 0) rfl HR3.out rfl I0.out (res_one _ _ _) ?_; intro w9 HB9 HU9)
  exact bodyPost_ret (results_blk Try.results25 rfl (show AggOf Try.prog 51 (List.length (resC 1 false 0)) from aggRes) HB9.out) rfl (MSt.fin1 HS2.out.bel HP.out HS2.out.low HR3.out HU9.out (post_one rfl (fun _ => HRl.out.ne h0) (fun x hx => by show (p1.2 x && p2.2 x) = _; rw [HF1.out x hx, HF2.out x hx])))
set_option maxRecDepth 100000 in
set_option maxHeartbeats 2000000 in
theorem ms7_walk (mb : Nat) (a : Option Addr) (G : List (Nat × (Nat → Bool))) (oa ob : Int) (ia : Option Addr) (inn ic : Nat) (iv : List (Int × Int)) (ra : Option Addr) (rn rc : Nat) (rg : List Int) (Ls : List (List (Int × Int))) (w : World) (h : MMach mb a G w) (ho : OpOk w ⟨7, oa, ob, ia, inn, ic, iv, ra, rn, rc, rg⟩) (hR : Rel (G.map (·.2)) Ls) (hN : ∀ l ∈ Ls, Nrm l) (h0 : 0 < G.length) (hrn : rn ≤ 65536) :
    Calls Try.prog 25 #[.pointer (some ⟨mb, 0, none⟩), .agg #[.int .i64 7, .int .i64 oa, .int .i64 ob, .slice ia inn ic, .slice ra rn rc]] w fun e w' => MSt mb a G ⟨7, oa, ob, ia, inn, ic, iv, ra, rn, rc, rg⟩ Ls w e w' := by
  have HM := hid h
  have HO := hid ho
  have HRl := hid hR
  have HNl := hid hN
  obtain ⟨q, hq⟩ : ∃ q, w.heap.size = q := ⟨_, rfl⟩
  obtain ⟨r, hr⟩ : ∃ r, q + 1 = r := ⟨_, rfl⟩
  have HS : Hid (S0 w q r [Value.int .i64 7, .int .i64 oa, .int .i64 ob, .slice ia inn ic, .slice ra rn rc] ((w.alloc (.cells #[Value.int .i64 7, .int .i64 oa, .int .i64 ob, .slice ia inn ic, .slice ra rn rc] 28)).alloc (.cells #[.int .i64 0, .bool false, .int .i64 0] 51))) := hid (S0.start w hq hr _)
  clear h ho hR hN
  go_enter Try.func25, Try.ntmps25
  go_upto_region 1 with fail
  generalize (w.alloc (.cells #[Value.int .i64 7, .int .i64 oa, .int .i64 ob, .slice ia inn ic, .slice ra rn rc] 28)).alloc (.cells #[.int .i64 0, .bool false, .int .i64 0] 51) = w1 at HS ⊢
  clear hq hr
  have o0 : w1.cell? ⟨q, 0, none⟩ = some (.int .i64 7) := HS.out.op.cell 0
  have o1 : w1.cell? ⟨q, 1, none⟩ = some (.int .i64 oa) := HS.out.op.cell 1
  have o2 : w1.cell? ⟨q, 2, none⟩ = some (.int .i64 ob) := HS.out.op.cell 2
  have o3 : w1.cell? ⟨q, 3, none⟩ = some (.slice ia inn ic) := HS.out.op.cell 3
  have o4 : w1.cell? ⟨q, 4, none⟩ = some (.slice ra rn rc) := HS.out.op.cell 4
  obtain ⟨p1, hp1, hf1⟩ := HRl.out.reg h0 oa
  obtain ⟨p2, hp2, hf2⟩ := HRl.out.reg h0 ob
  have HF1 := hid hf1
  have HF2 := hid hf2
  have hL0 : 0 < Ls.length := by have := HRl.out.len; rw [List.length_map] at this; omega
  have HN1 := hid (HNl.out _ (regL_mem hL0 oa))
  have HN2 := hid (HNl.out _ (regL_mem hL0 ob))
  have HG1 : Hid (∀ w2, Below w.heap.size w w2 → Blk w2 p1.1 4 (tabL p1.2)) := hid (fun w2 hb => (HM.out.tabs p1 (List.mem_of_getElem? hp1)).below hb)
  have HG2 : Hid (∀ w2, Below w.heap.size w w2 → Blk w2 p2.1 4 (tabL p2.2)) := hid (fun w2 hb => (HM.out.tabs p2 (List.mem_of_getElem? hp2)).below hb)
  have HRg1 : Hid (∀ w2, Below w.heap.size w w2 → Calls Try.prog 63 #[.pointer (some ⟨mb, 0, none⟩), .int .i64 oa] w2 fun e w3 => e = .returned (.slice (some ⟨p1.1, 0, none⟩) 196608 196608) ∧ Below w2.heap.size w2 w3) := hid (fun w2 hb => mreg_walk mb a G oa p1 w2 (HM.out.below hb) HO.out.fa h0 hp1)
  have HRg2 : Hid (∀ w2, Below w.heap.size w w2 → Calls Try.prog 63 #[.pointer (some ⟨mb, 0, none⟩), .int .i64 ob] w2 fun e w3 => e = .returned (.slice (some ⟨p2.1, 0, none⟩) 196608 196608) ∧ Below w2.heap.size w2 w3) := hid (fun w2 hb => mreg_walk mb a G ob p2 w2 (HM.out.below hb) HO.out.fb h0 hp2)
  obtain ⟨N, hNN⟩ : ∃ N, G.length = N := ⟨_, rfl⟩
  obtain ⟨mc, hmc, _⟩ := (HM.out.below HS.out.bel).out
  rw [hNN] at hmc
  have cm : w1.cell? ⟨mb, 0, none⟩ = some (.slice a N mc) := hmc.cell 0
  have dN : ((N : Int) == 0) = false := by rw [beq_eq_false_iff_ne]; omega
  clear hp1 hp2 hf1 hf2 hNN hmc
  go_upto_region 60 with fail
  obtain ⟨X, W, hT, hI⟩ := class_mk (fun w2 => S0 w q r [Value.int .i64 7, .int .i64 oa, .int .i64 ob, .slice ia inn ic, .slice ra rn rc] w2)
  have HCl : Hid (∀ x w2, Below (W x).heap.size (W x) w2 → ∃ y, w2 = W y) := hid (fun x w2 hb => hI _ ((hT x).below hb))
  have H0 : Hid (∃ x, w1.drew = W x) := hid (hI _ (HS.out.below (Drew.below ⟨1, rfl⟩ _)))
  have hne : Nonempty X := ⟨H0.out.choose⟩
  have e1 : ∀ x, (W x).cell? ⟨q, 1, none⟩ = some (.int .i64 oa) := fun x => (hT x).op.cell 1
  have e2 : ∀ x, (W x).cell? ⟨q, 2, none⟩ = some (.int .i64 ob) := fun x => (hT x).op.cell 2
  have HC1 : Hid (∀ x, Calls Try.prog 63 #[.pointer (some ⟨mb, 0, none⟩), .int .i64 oa] (W x) fun e w3 => e = .returned (.slice (some ⟨p1.1, 0, none⟩) 196608 196608) ∧ Below (W x).heap.size (W x) w3) := hid (fun x => HRg1.out _ (hT x).bel)
  have HC2 : Hid (∀ x, Calls Try.prog 63 #[.pointer (some ⟨mb, 0, none⟩), .int .i64 ob] (W x) fun e w3 => e = .returned (.slice (some ⟨p2.1, 0, none⟩) 196608 196608) ∧ Below (W x).heap.size (W x) w3) := hid (fun x => HRg2.out _ (hT x).bel)
  have HTT := hid hT
  clear hT hI o0 o1 o2 o3 o4 cm dN HRg1 HRg2
  refine wp_region_class W rfl (by kernel_rfl) H0.out ?_
  repeat (go_big_quiet_step ((go_at_call 63; first | (with_reducible exact Calls.class_of HCl.out (HC1.out _)) | (with_reducible exact Calls.class_of HCl.out (HC2.out _)))))
  refine wpQuiet_nil ?_
  intro z
  have HS1 := hid (HTT.out z)
  generalize W z = wz at HS1 ⊢
  clear e1 e2 HCl H0 HTT HC1 HC2 hne HS
  have o0 : wz.cell? ⟨q, 0, none⟩ = some (.int .i64 7) := HS1.out.op.cell 0
  have o2 : wz.cell? ⟨q, 2, none⟩ = some (.int .i64 ob) := HS1.out.op.cell 2
  go_wp2_with fail
  refine (comb4_walk p1.1 p2.1 p1.2 p2.2 wz (HG1.out wz HS1.out.bel) (HG2.out wz HS1.out.bel)).mono ?_
  rintro e w2 ⟨g, rfl, hg, hTb⟩
  have HS2 := hid (HS1.out.below hTb.bel)
  have HT : Hid (Blk w2 g 4 (tabL fun i => p1.2 i && !p2.2 i)) := hid hTb.blk
  clear hg hTb o0 o2
  have HPu := hid (mpush_walk mb a G g (fun i => p1.2 i && !p2.2 i) w2 (HM.out.below HS2.out.bel) HT.out)
  go_wp2_with fail
  refine HPu.out.mono ?_
  rintro e w3 hp
  have hrt := hp.ret
  subst hrt
  have HP := hid hp
  have HR3 : Hid (Blk w3 r 51 (resC 0 false 0)) := hid ((HM.out.below HS2.out.bel).blkT hp.upd HS2.out.res (by decide) (by decide))
  clear hp HPu
  have I0 : Hid ((Try.prog.info? 51).map (·.size) = some (resC 1 false 0).length) := hid info_res
  go_wp2_with (refine wpList_store_blk rfl 51 _ _ rfl r rfl (resC 1 false 0) rfl HR3.out rfl I0.out (res_one _ _ _) ?_; intro w9 HB9 HU9)
  exact bodyPost_ret (results_blk Try.results25 rfl (show AggOf Try.prog 51 (List.length (resC 1 false 0)) from aggRes) HB9.out) rfl (MSt.fin1 HS2.out.bel HP.out HS2.out.low HR3.out HU9.out (post_one rfl (fun _ => HRl.out.ne h0) (fun x hx => by show (p1.2 x && !p2.2 x) = _; rw [HF1.out x hx, HF2.out x hx])))
set_option maxRecDepth 100000 in
set_option maxHeartbeats 2000000 in
theorem ms8_walk (mb : Nat) (a : Option Addr) (G : List (Nat × (Nat → Bool))) (oa ob : Int) (ia : Option Addr) (inn ic : Nat) (iv : List (Int × Int)) (ra : Option Addr) (rn rc : Nat) (rg : List Int) (Ls : List (List (Int × Int))) (w : World) (h : MMach mb a G w) (ho : OpOk w ⟨8, oa, ob, ia, inn, ic, iv, ra, rn, rc, rg⟩) (hR : Rel (G.map (·.2)) Ls) (hN : ∀ l ∈ Ls, Nrm l) (h0 : 0 < G.length) (hrn : rn ≤ 65536) :
    Calls Try.prog 25 #[.pointer (some ⟨mb, 0, none⟩), .agg #[.int .i64 8, .int .i64 oa, .int .i64 ob, .slice ia inn ic, .slice ra rn rc]] w fun e w' => MSt mb a G ⟨8, oa, ob, ia, inn, ic, iv, ra, rn, rc, rg⟩ Ls w e w' := by
  have HM := hid h
  have HO := hid ho
  have HRl := hid hR
  have HNl := hid hN
  obtain ⟨q, hq⟩ : ∃ q, w.heap.size = q := ⟨_, rfl⟩
  obtain ⟨r, hr⟩ : ∃ r, q + 1 = r := ⟨_, rfl⟩
  have HS : Hid (S0 w q r [Value.int .i64 8, .int .i64 oa, .int .i64 ob, .slice ia inn ic, .slice ra rn rc] ((w.alloc (.cells #[Value.int .i64 8, .int .i64 oa, .int .i64 ob, .slice ia inn ic, .slice ra rn rc] 28)).alloc (.cells #[.int .i64 0, .bool false, .int .i64 0] 51))) := hid (S0.start w hq hr _)
  clear h ho hR hN
  go_enter Try.func25, Try.ntmps25
  go_upto_region 1 with fail
  generalize (w.alloc (.cells #[Value.int .i64 8, .int .i64 oa, .int .i64 ob, .slice ia inn ic, .slice ra rn rc] 28)).alloc (.cells #[.int .i64 0, .bool false, .int .i64 0] 51) = w1 at HS ⊢
  clear hq hr
  have o0 : w1.cell? ⟨q, 0, none⟩ = some (.int .i64 8) := HS.out.op.cell 0
  have o1 : w1.cell? ⟨q, 1, none⟩ = some (.int .i64 oa) := HS.out.op.cell 1
  have o2 : w1.cell? ⟨q, 2, none⟩ = some (.int .i64 ob) := HS.out.op.cell 2
  have o3 : w1.cell? ⟨q, 3, none⟩ = some (.slice ia inn ic) := HS.out.op.cell 3
  have o4 : w1.cell? ⟨q, 4, none⟩ = some (.slice ra rn rc) := HS.out.op.cell 4
  obtain ⟨p1, hp1, hf1⟩ := HRl.out.reg h0 oa
  obtain ⟨p2, hp2, hf2⟩ := HRl.out.reg h0 ob
  have HF1 := hid hf1
  have HF2 := hid hf2
  have hL0 : 0 < Ls.length := by have := HRl.out.len; rw [List.length_map] at this; omega
  have HN1 := hid (HNl.out _ (regL_mem hL0 oa))
  have HN2 := hid (HNl.out _ (regL_mem hL0 ob))
  have HG1 : Hid (∀ w2, Below w.heap.size w w2 → Blk w2 p1.1 4 (tabL p1.2)) := hid (fun w2 hb => (HM.out.tabs p1 (List.mem_of_getElem? hp1)).below hb)
  have HG2 : Hid (∀ w2, Below w.heap.size w w2 → Blk w2 p2.1 4 (tabL p2.2)) := hid (fun w2 hb => (HM.out.tabs p2 (List.mem_of_getElem? hp2)).below hb)
  have HRg1 : Hid (∀ w2, Below w.heap.size w w2 → Calls Try.prog 63 #[.pointer (some ⟨mb, 0, none⟩), .int .i64 oa] w2 fun e w3 => e = .returned (.slice (some ⟨p1.1, 0, none⟩) 196608 196608) ∧ Below w2.heap.size w2 w3) := hid (fun w2 hb => mreg_walk mb a G oa p1 w2 (HM.out.below hb) HO.out.fa h0 hp1)
  have HRg2 : Hid (∀ w2, Below w.heap.size w w2 → Calls Try.prog 63 #[.pointer (some ⟨mb, 0, none⟩), .int .i64 ob] w2 fun e w3 => e = .returned (.slice (some ⟨p2.1, 0, none⟩) 196608 196608) ∧ Below w2.heap.size w2 w3) := hid (fun w2 hb => mreg_walk mb a G ob p2 w2 (HM.out.below hb) HO.out.fb h0 hp2)
  obtain ⟨N, hNN⟩ : ∃ N, G.length = N := ⟨_, rfl⟩
  obtain ⟨mc, hmc, _⟩ := (HM.out.below HS.out.bel).out
  rw [hNN] at hmc
  have cm : w1.cell? ⟨mb, 0, none⟩ = some (.slice a N mc) := hmc.cell 0
  have dN : ((N : Int) == 0) = false := by rw [beq_eq_false_iff_ne]; omega
  clear hp1 hp2 hf1 hf2 hNN hmc
  go_upto_region 60 with fail
  obtain ⟨X, W, hT, hI⟩ := class_mk (fun w2 => S0 w q r [Value.int .i64 8, .int .i64 oa, .int .i64 ob, .slice ia inn ic, .slice ra rn rc] w2)
  have HCl : Hid (∀ x w2, Below (W x).heap.size (W x) w2 → ∃ y, w2 = W y) := hid (fun x w2 hb => hI _ ((hT x).below hb))
  have H0 : Hid (∃ x, w1.drew = W x) := hid (hI _ (HS.out.below (Drew.below ⟨1, rfl⟩ _)))
  have hne : Nonempty X := ⟨H0.out.choose⟩
  have e1 : ∀ x, (W x).cell? ⟨q, 1, none⟩ = some (.int .i64 oa) := fun x => (hT x).op.cell 1
  have e2 : ∀ x, (W x).cell? ⟨q, 2, none⟩ = some (.int .i64 ob) := fun x => (hT x).op.cell 2
  have HC1 : Hid (∀ x, Calls Try.prog 63 #[.pointer (some ⟨mb, 0, none⟩), .int .i64 oa] (W x) fun e w3 => e = .returned (.slice (some ⟨p1.1, 0, none⟩) 196608 196608) ∧ Below (W x).heap.size (W x) w3) := hid (fun x => HRg1.out _ (hT x).bel)
  have HC2 : Hid (∀ x, Calls Try.prog 63 #[.pointer (some ⟨mb, 0, none⟩), .int .i64 ob] (W x) fun e w3 => e = .returned (.slice (some ⟨p2.1, 0, none⟩) 196608 196608) ∧ Below (W x).heap.size (W x) w3) := hid (fun x => HRg2.out _ (hT x).bel)
  have HTT := hid hT
  clear hT hI o0 o1 o2 o3 o4 cm dN HRg1 HRg2
  refine wp_region_class W rfl (by kernel_rfl) H0.out ?_
  repeat (go_big_quiet_step ((go_at_call 63; first | (with_reducible exact Calls.class_of HCl.out (HC1.out _)) | (with_reducible exact Calls.class_of HCl.out (HC2.out _)))))
  refine wpQuiet_nil ?_
  intro z
  have HS1 := hid (HTT.out z)
  generalize W z = wz at HS1 ⊢
  clear e1 e2 HCl H0 HTT HC1 HC2 hne HS
  have o0 : wz.cell? ⟨q, 0, none⟩ = some (.int .i64 8) := HS1.out.op.cell 0
  have o2 : wz.cell? ⟨q, 2, none⟩ = some (.int .i64 ob) := HS1.out.op.cell 2
  go_wp2_with fail
  refine (comb5_walk p1.1 p2.1 p1.2 p2.2 wz (HG1.out wz HS1.out.bel) (HG2.out wz HS1.out.bel)).mono ?_
  rintro e w2 ⟨g, rfl, hg, hTb⟩
  have HS2 := hid (HS1.out.below hTb.bel)
  have HT : Hid (Blk w2 g 4 (tabL fun i => p1.2 i != p2.2 i)) := hid hTb.blk
  clear hg hTb o0 o2
  have HPu := hid (mpush_walk mb a G g (fun i => p1.2 i != p2.2 i) w2 (HM.out.below HS2.out.bel) HT.out)
  go_wp2_with fail
  refine HPu.out.mono ?_
  rintro e w3 hp
  have hrt := hp.ret
  subst hrt
  have HP := hid hp
  have HR3 : Hid (Blk w3 r 51 (resC 0 false 0)) := hid ((HM.out.below HS2.out.bel).blkT hp.upd HS2.out.res (by decide) (by decide))
  clear hp HPu
  have I0 : Hid ((Try.prog.info? 51).map (·.size) = some (resC 1 false 0).length) := hid info_res
  go_wp2_with (refine wpList_store_blk rfl 51 _ _ rfl r rfl (resC 1 false 0) rfl HR3.out rfl I0.out (res_one _ _ _) ?_; intro w9 HB9 HU9)
  exact bodyPost_ret (results_blk Try.results25 rfl (show AggOf Try.prog 51 (List.length (resC 1 false 0)) from aggRes) HB9.out) rfl (MSt.fin1 HS2.out.bel HP.out HS2.out.low HR3.out HU9.out (post_one rfl (fun _ => HRl.out.ne h0) (fun x hx => by show (p1.2 x != p2.2 x) = _; rw [HF1.out x hx, HF2.out x hx])))
set_option maxRecDepth 100000 in
set_option maxHeartbeats 2000000 in
theorem ms9_walk (mb : Nat) (a : Option Addr) (G : List (Nat × (Nat → Bool))) (oa ob : Int) (ia : Option Addr) (inn ic : Nat) (iv : List (Int × Int)) (ra : Option Addr) (rn rc : Nat) (rg : List Int) (Ls : List (List (Int × Int))) (w : World) (h : MMach mb a G w) (ho : OpOk w ⟨9, oa, ob, ia, inn, ic, iv, ra, rn, rc, rg⟩) (hR : Rel (G.map (·.2)) Ls) (hN : ∀ l ∈ Ls, Nrm l) (h0 : 0 < G.length) (hrn : rn ≤ 65536) :
    Calls Try.prog 25 #[.pointer (some ⟨mb, 0, none⟩), .agg #[.int .i64 9, .int .i64 oa, .int .i64 ob, .slice ia inn ic, .slice ra rn rc]] w fun e w' => MSt mb a G ⟨9, oa, ob, ia, inn, ic, iv, ra, rn, rc, rg⟩ Ls w e w' := by
  have HM := hid h
  have HO := hid ho
  have HRl := hid hR
  have HNl := hid hN
  obtain ⟨q, hq⟩ : ∃ q, w.heap.size = q := ⟨_, rfl⟩
  obtain ⟨r, hr⟩ : ∃ r, q + 1 = r := ⟨_, rfl⟩
  have HS : Hid (S0 w q r [Value.int .i64 9, .int .i64 oa, .int .i64 ob, .slice ia inn ic, .slice ra rn rc] ((w.alloc (.cells #[Value.int .i64 9, .int .i64 oa, .int .i64 ob, .slice ia inn ic, .slice ra rn rc] 28)).alloc (.cells #[.int .i64 0, .bool false, .int .i64 0] 51))) := hid (S0.start w hq hr _)
  clear h ho hR hN
  go_enter Try.func25, Try.ntmps25
  go_upto_region 1 with fail
  generalize (w.alloc (.cells #[Value.int .i64 9, .int .i64 oa, .int .i64 ob, .slice ia inn ic, .slice ra rn rc] 28)).alloc (.cells #[.int .i64 0, .bool false, .int .i64 0] 51) = w1 at HS ⊢
  clear hq hr
  have o0 : w1.cell? ⟨q, 0, none⟩ = some (.int .i64 9) := HS.out.op.cell 0
  have o1 : w1.cell? ⟨q, 1, none⟩ = some (.int .i64 oa) := HS.out.op.cell 1
  have o2 : w1.cell? ⟨q, 2, none⟩ = some (.int .i64 ob) := HS.out.op.cell 2
  have o3 : w1.cell? ⟨q, 3, none⟩ = some (.slice ia inn ic) := HS.out.op.cell 3
  have o4 : w1.cell? ⟨q, 4, none⟩ = some (.slice ra rn rc) := HS.out.op.cell 4
  obtain ⟨p1, hp1, hf1⟩ := HRl.out.reg h0 oa
  obtain ⟨p2, hp2, hf2⟩ := HRl.out.reg h0 ob
  have HF1 := hid hf1
  have HF2 := hid hf2
  have hL0 : 0 < Ls.length := by have := HRl.out.len; rw [List.length_map] at this; omega
  have HN1 := hid (HNl.out _ (regL_mem hL0 oa))
  have HN2 := hid (HNl.out _ (regL_mem hL0 ob))
  have HG1 : Hid (∀ w2, Below w.heap.size w w2 → Blk w2 p1.1 4 (tabL p1.2)) := hid (fun w2 hb => (HM.out.tabs p1 (List.mem_of_getElem? hp1)).below hb)
  have HG2 : Hid (∀ w2, Below w.heap.size w w2 → Blk w2 p2.1 4 (tabL p2.2)) := hid (fun w2 hb => (HM.out.tabs p2 (List.mem_of_getElem? hp2)).below hb)
  have HRg1 : Hid (∀ w2, Below w.heap.size w w2 → Calls Try.prog 63 #[.pointer (some ⟨mb, 0, none⟩), .int .i64 oa] w2 fun e w3 => e = .returned (.slice (some ⟨p1.1, 0, none⟩) 196608 196608) ∧ Below w2.heap.size w2 w3) := hid (fun w2 hb => mreg_walk mb a G oa p1 w2 (HM.out.below hb) HO.out.fa h0 hp1)
  have HRg2 : Hid (∀ w2, Below w.heap.size w w2 → Calls Try.prog 63 #[.pointer (some ⟨mb, 0, none⟩), .int .i64 ob] w2 fun e w3 => e = .returned (.slice (some ⟨p2.1, 0, none⟩) 196608 196608) ∧ Below w2.heap.size w2 w3) := hid (fun w2 hb => mreg_walk mb a G ob p2 w2 (HM.out.below hb) HO.out.fb h0 hp2)
  obtain ⟨N, hNN⟩ : ∃ N, G.length = N := ⟨_, rfl⟩
  obtain ⟨mc, hmc, _⟩ := (HM.out.below HS.out.bel).out
  rw [hNN] at hmc
  have cm : w1.cell? ⟨mb, 0, none⟩ = some (.slice a N mc) := hmc.cell 0
  have dN : ((N : Int) == 0) = false := by rw [beq_eq_false_iff_ne]; omega
  clear hp1 hp2 hf1 hf2 hNN hmc
  go_upto_region 60 with fail
  obtain ⟨X, W, hT, hI⟩ := class_mk (fun w2 => S0 w q r [Value.int .i64 9, .int .i64 oa, .int .i64 ob, .slice ia inn ic, .slice ra rn rc] w2)
  have HCl : Hid (∀ x w2, Below (W x).heap.size (W x) w2 → ∃ y, w2 = W y) := hid (fun x w2 hb => hI _ ((hT x).below hb))
  have H0 : Hid (∃ x, w1.drew = W x) := hid (hI _ (HS.out.below (Drew.below ⟨1, rfl⟩ _)))
  have hne : Nonempty X := ⟨H0.out.choose⟩
  have e1 : ∀ x, (W x).cell? ⟨q, 1, none⟩ = some (.int .i64 oa) := fun x => (hT x).op.cell 1
  have e2 : ∀ x, (W x).cell? ⟨q, 2, none⟩ = some (.int .i64 ob) := fun x => (hT x).op.cell 2
  have HC1 : Hid (∀ x, Calls Try.prog 63 #[.pointer (some ⟨mb, 0, none⟩), .int .i64 oa] (W x) fun e w3 => e = .returned (.slice (some ⟨p1.1, 0, none⟩) 196608 196608) ∧ Below (W x).heap.size (W x) w3) := hid (fun x => HRg1.out _ (hT x).bel)
  have HC2 : Hid (∀ x, Calls Try.prog 63 #[.pointer (some ⟨mb, 0, none⟩), .int .i64 ob] (W x) fun e w3 => e = .returned (.slice (some ⟨p2.1, 0, none⟩) 196608 196608) ∧ Below (W x).heap.size (W x) w3) := hid (fun x => HRg2.out _ (hT x).bel)
  have HTT := hid hT
  clear hT hI o0 o1 o2 o3 o4 cm dN HRg1 HRg2
  refine wp_region_class W rfl (by kernel_rfl) H0.out ?_
  repeat (go_big_quiet_step ((go_at_call 63; first | (with_reducible exact Calls.class_of HCl.out (HC1.out _)) | (with_reducible exact Calls.class_of HCl.out (HC2.out _)))))
  refine wpQuiet_nil ?_
  intro z
  have HS1 := hid (HTT.out z)
  generalize W z = wz at HS1 ⊢
  clear e1 e2 HCl H0 HTT HC1 HC2 hne HS
  have o0 : wz.cell? ⟨q, 0, none⟩ = some (.int .i64 9) := HS1.out.op.cell 0
  have o2 : wz.cell? ⟨q, 2, none⟩ = some (.int .i64 ob) := HS1.out.op.cell 2
  go_wp2_with fail
  refine (comb6_walk p1.1 p1.1 p1.2 p1.2 wz (HG1.out wz HS1.out.bel) (HG1.out wz HS1.out.bel)).mono ?_
  rintro e w2 ⟨g, rfl, hg, hTb⟩
  have HS2 := hid (HS1.out.below hTb.bel)
  have HT : Hid (Blk w2 g 4 (tabL fun i => !p1.2 i)) := hid hTb.blk
  clear hg hTb o0 o2
  have HPu := hid (mpush_walk mb a G g (fun i => !p1.2 i) w2 (HM.out.below HS2.out.bel) HT.out)
  go_wp2_with fail
  refine HPu.out.mono ?_
  rintro e w3 hp
  have hrt := hp.ret
  subst hrt
  have HP := hid hp
  have HR3 : Hid (Blk w3 r 51 (resC 0 false 0)) := hid ((HM.out.below HS2.out.bel).blkT hp.upd HS2.out.res (by decide) (by decide))
  clear hp HPu
  have I0 : Hid ((Try.prog.info? 51).map (·.size) = some (resC 1 false 0).length) := hid info_res
  go_wp2_with (refine wpList_store_blk rfl 51 _ _ rfl r rfl (resC 1 false 0) rfl HR3.out rfl I0.out (res_one _ _ _) ?_; intro w9 HB9 HU9)
  exact bodyPost_ret (results_blk Try.results25 rfl (show AggOf Try.prog 51 (List.length (resC 1 false 0)) from aggRes) HB9.out) rfl (MSt.fin1 HS2.out.bel HP.out HS2.out.low HR3.out HU9.out (post_one rfl (fun _ => HRl.out.ne h0) (fun x hx => by show (!p1.2 x) = _; rw [HF1.out x hx])))
end Go.Proofs.Qxb6500884a
