/- The model's Step, kind by kind: the questions. -/
import Derived.Test.Qxb6500884aClRmB
import Derived.Test.Qxb6500884aClBld
namespace Go.Proofs.Qxb6500884a
open Go.RowKit
set_option linter.unusedSimpArgs false
set_option linter.unusedVariables false

set_option maxRecDepth 100000 in
set_option maxHeartbeats 2000000 in
theorem ms13_walk (mb : Nat) (a : Option Addr) (G : List (Nat × (Nat → Bool))) (oa ob : Int) (ia : Option Addr) (inn ic : Nat) (iv : List (Int × Int)) (ra : Option Addr) (rn rc : Nat) (rg : List Int) (Ls : List (List (Int × Int))) (w : World) (h : MMach mb a G w) (ho : OpOk w ⟨13, oa, ob, ia, inn, ic, iv, ra, rn, rc, rg⟩) (hR : Rel (G.map (·.2)) Ls) (hN : ∀ l ∈ Ls, Nrm l) (h0 : 0 < G.length) (hrn : rn ≤ 65536) :
    Calls Try.prog 25 #[.pointer (some ⟨mb, 0, none⟩), .agg #[.int .i64 13, .int .i64 oa, .int .i64 ob, .slice ia inn ic, .slice ra rn rc]] w fun e w' => MSt mb a G ⟨13, oa, ob, ia, inn, ic, iv, ra, rn, rc, rg⟩ Ls w e w' := by
  have HM := hid h
  have HO := hid ho
  have HRl := hid hR
  have HNl := hid hN
  obtain ⟨q, hq⟩ : ∃ q, w.heap.size = q := ⟨_, rfl⟩
  obtain ⟨r, hr⟩ : ∃ r, q + 1 = r := ⟨_, rfl⟩
  have HS : Hid (S0 w q r [Value.int .i64 13, .int .i64 oa, .int .i64 ob, .slice ia inn ic, .slice ra rn rc] ((w.alloc (.cells #[Value.int .i64 13, .int .i64 oa, .int .i64 ob, .slice ia inn ic, .slice ra rn rc] 28)).alloc (.cells #[.int .i64 0, .bool false, .int .i64 0] 51))) := hid (S0.start w hq hr _)
  clear h ho hR hN
  go_enter Try.func25, Try.ntmps25
  go_upto_region 1 with fail
  generalize (w.alloc (.cells #[Value.int .i64 13, .int .i64 oa, .int .i64 ob, .slice ia inn ic, .slice ra rn rc] 28)).alloc (.cells #[.int .i64 0, .bool false, .int .i64 0] 51) = w1 at HS ⊢
  clear hq hr
  have o0 : w1.cell? ⟨q, 0, none⟩ = some (.int .i64 13) := HS.out.op.cell 0
  have o1 : w1.cell? ⟨q, 1, none⟩ = some (.int .i64 oa) := HS.out.op.cell 1
  have o2 : w1.cell? ⟨q, 2, none⟩ = some (.int .i64 ob) := HS.out.op.cell 2
  have o3 : w1.cell? ⟨q, 3, none⟩ = some (.slice ia inn ic) := HS.out.op.cell 3
  have o4 : w1.cell? ⟨q, 4, none⟩ = some (.slice ra rn rc) := HS.out.op.cell 4
  obtain ⟨p1, hp1, hf1⟩ := HRl.out.reg h0 oa
  obtain ⟨p2, hp2, hf2⟩ := HRl.out.reg h0 ob
  have HF1 := hid hf1
  have HF2 := hid hf2
  have hL0 : 0 < Ls.length := by have := HRl.out.len; rw [List.length_map] at this; omega
  have HN1 := hid (HNl.out _ (regL_mem hL0 oa))
  have HN2 := hid (HNl.out _ (regL_mem hL0 ob))
  have HG1 : Hid (∀ w2, Below w.heap.size w w2 → Blk w2 p1.1 4 (tabL p1.2)) := hid (fun w2 hb => (HM.out.tabs p1 (List.mem_of_getElem? hp1)).below hb)
  have HG2 : Hid (∀ w2, Below w.heap.size w w2 → Blk w2 p2.1 4 (tabL p2.2)) := hid (fun w2 hb => (HM.out.tabs p2 (List.mem_of_getElem? hp2)).below hb)
  have HRg1 : Hid (∀ w2, Below w.heap.size w w2 → Calls Try.prog 63 #[.pointer (some ⟨mb, 0, none⟩), .int .i64 oa] w2 fun e w3 => e = .returned (.slice (some ⟨p1.1, 0, none⟩) 196608 196608) ∧ Below w2.heap.size w2 w3) := hid (fun w2 hb => mreg_walk mb a G oa p1 w2 (HM.out.below hb) HO.out.fa h0 hp1)
  have HRg2 : Hid (∀ w2, Below w.heap.size w w2 → Calls Try.prog 63 #[.pointer (some ⟨mb, 0, none⟩), .int .i64 ob] w2 fun e w3 => e = .returned (.slice (some ⟨p2.1, 0, none⟩) 196608 196608) ∧ Below w2.heap.size w2 w3) := hid (fun w2 hb => mreg_walk mb a G ob p2 w2 (HM.out.below hb) HO.out.fb h0 hp2)
  obtain ⟨N, hNN⟩ : ∃ N, G.length = N := ⟨_, rfl⟩
  obtain ⟨mc, hmc, _⟩ := (HM.out.below HS.out.bel).out
  rw [hNN] at hmc
  have cm : w1.cell? ⟨mb, 0, none⟩ = some (.slice a N mc) := hmc.cell 0
  have dN : ((N : Int) == 0) = false := by rw [beq_eq_false_iff_ne]; omega
  clear hp1 hp2 hf1 hf2 hNN hmc
  go_upto_region 60 with fail
  obtain ⟨X, W, hT, hI⟩ := class_mk (fun w2 => S0 w q r [Value.int .i64 13, .int .i64 oa, .int .i64 ob, .slice ia inn ic, .slice ra rn rc] w2)
  have HCl : Hid (∀ x w2, Below (W x).heap.size (W x) w2 → ∃ y, w2 = W y) := hid (fun x w2 hb => hI _ ((hT x).below hb))
  have H0 : Hid (∃ x, w1.drew = W x) := hid (hI _ (HS.out.below (Drew.below ⟨1, rfl⟩ _)))
  have hne : Nonempty X := ⟨H0.out.choose⟩
  have e1 : ∀ x, (W x).cell? ⟨q, 1, none⟩ = some (.int .i64 oa) := fun x => (hT x).op.cell 1
  have e2 : ∀ x, (W x).cell? ⟨q, 2, none⟩ = some (.int .i64 ob) := fun x => (hT x).op.cell 2
  have HC1 : Hid (∀ x, Calls Try.prog 63 #[.pointer (some ⟨mb, 0, none⟩), .int .i64 oa] (W x) fun e w3 => e = .returned (.slice (some ⟨p1.1, 0, none⟩) 196608 196608) ∧ Below (W x).heap.size (W x) w3) := hid (fun x => HRg1.out _ (hT x).bel)
  have HC2 : Hid (∀ x, Calls Try.prog 63 #[.pointer (some ⟨mb, 0, none⟩), .int .i64 ob] (W x) fun e w3 => e = .returned (.slice (some ⟨p2.1, 0, none⟩) 196608 196608) ∧ Below (W x).heap.size (W x) w3) := hid (fun x => HRg2.out _ (hT x).bel)
  have HTT := hid hT
  clear hT hI o0 o1 o2 o3 o4 cm dN HRg1 HRg2
  refine wp_region_class W rfl (by kernel_rfl) H0.out ?_
  repeat (go_big_quiet_step ((go_at_call 63; first | (with_reducible exact Calls.class_of HCl.out (HC1.out _)) | (with_reducible exact Calls.class_of HCl.out (HC2.out _)))))
  refine wpQuiet_nil ?_
  intro z
  have HS1 := hid (HTT.out z)
  generalize W z = wz at HS1 ⊢
  clear e1 e2 HCl H0 HTT HC1 HC2 hne HS
  have o0 : wz.cell? ⟨q, 0, none⟩ = some (.int .i64 13) := HS1.out.op.cell 0
  have o2 : wz.cell? ⟨q, 2, none⟩ = some (.int .i64 ob) := HS1.out.op.cell 2
  obtain ⟨B, hB⟩ : ∃ B, memB (regL Ls oa) ob = B := ⟨_, rfl⟩
  have HBv := hid hB
  have HS2 := HS1
  by_cases hin : 0 ≤ ob ∧ ob ≤ 196607
  · as_aux_lemma =>
    obtain ⟨x, hx⟩ : ∃ x : Nat, ob = (x : Int) := ⟨ob.toNat, by omega⟩
    subst hx
    have hxl : x < 196608 := by omega
    have ix : (x : Int) < 196608 := by omega
    have d1 : decide (0 ≤ (x : Int)) = true := decide_eq_true (by omega)
    have d2 : decide ((x : Int) ≤ 196607) = true := decide_eq_true (by omega)
    have cp : wz.cell? ⟨p1.1, x, none⟩ = some (.bool B) := by rw [(HG1.out wz HS1.out.bel).cell, tabL_get _ hxl, HF1.out x hxl, hB]
    clear hB
    go_wp2_with fail
    refine (mtruth_walk B wz).mono ?_
    rintro e wt ⟨rfl, hbt⟩
    have HS3 := hid (HS2.out.below hbt)
    clear hbt HS2
    have HS2 := HS3
    obtain ⟨bi, hbi⟩ : ∃ bi, bitI B = bi := ⟨_, rfl⟩
    rw [hbi]
    have Hbi := hid hbi
    clear hbi
    have I0 : Hid ((Try.prog.info? 51).map (·.size) = some (resC 0 true bi).length) := hid info_res
    go_wp2_with (refine wpList_store_blk rfl 51 _ _ rfl r rfl (resC 0 true bi) rfl HS2.out.res rfl I0.out (res_one _ _ _) ?_; intro w9 HB9 HU9)
    exact bodyPost_ret (results_blk Try.results25 rfl (show AggOf Try.prog 51 (List.length (resC 0 true bi)) from aggRes) HB9.out) rfl (MSt.fin0 HM.out (HS2.out.bel.trans (HU9.out.below HS2.out.low HS2.out.bel.size)) (by rw [← Hbi.out]; exact post_ask (HRl.out.ne h0) (by show some (resC 0 true (bitI (memB (regL Ls oa) (x : Int)))) = _; rw [HBv.out])))
  as_aux_lemma =>
  have hBf : B = false := by rw [← hB]; exact memB_rng HN1.out hin
  subst hBf
  clear hB
  by_cases h1 : 0 ≤ ob
  · as_aux_lemma =>
    have d1 : decide (0 ≤ ob) = true := decide_eq_true h1
    have d2 : decide (ob ≤ 196607) = false := decide_eq_false (by omega)
    go_wp2_with fail
    refine (mtruth_walk false wz).mono ?_
    rintro e wt ⟨rfl, hbt⟩
    have HS3 := hid (HS2.out.below hbt)
    clear hbt HS2
    have HS2 := HS3
    obtain ⟨bi, hbi⟩ : ∃ bi, bitI false = bi := ⟨_, rfl⟩
    rw [hbi]
    have Hbi := hid hbi
    clear hbi
    have I0 : Hid ((Try.prog.info? 51).map (·.size) = some (resC 0 true bi).length) := hid info_res
    go_wp2_with (refine wpList_store_blk rfl 51 _ _ rfl r rfl (resC 0 true bi) rfl HS2.out.res rfl I0.out (res_one _ _ _) ?_; intro w9 HB9 HU9)
    exact bodyPost_ret (results_blk Try.results25 rfl (show AggOf Try.prog 51 (List.length (resC 0 true bi)) from aggRes) HB9.out) rfl (MSt.fin0 HM.out (HS2.out.bel.trans (HU9.out.below HS2.out.low HS2.out.bel.size)) (by rw [← Hbi.out]; exact post_ask (HRl.out.ne h0) (by show some (resC 0 true (bitI (memB (regL Ls oa) ob))) = _; rw [HBv.out])))
  · as_aux_lemma =>
    have d1 : decide (0 ≤ ob) = false := decide_eq_false h1
    go_wp2_with fail
    refine (mtruth_walk false wz).mono ?_
    rintro e wt ⟨rfl, hbt⟩
    have HS3 := hid (HS2.out.below hbt)
    clear hbt HS2
    have HS2 := HS3
    obtain ⟨bi, hbi⟩ : ∃ bi, bitI false = bi := ⟨_, rfl⟩
    rw [hbi]
    have Hbi := hid hbi
    clear hbi
    have I0 : Hid ((Try.prog.info? 51).map (·.size) = some (resC 0 true bi).length) := hid info_res
    go_wp2_with (refine wpList_store_blk rfl 51 _ _ rfl r rfl (resC 0 true bi) rfl HS2.out.res rfl I0.out (res_one _ _ _) ?_; intro w9 HB9 HU9)
    exact bodyPost_ret (results_blk Try.results25 rfl (show AggOf Try.prog 51 (List.length (resC 0 true bi)) from aggRes) HB9.out) rfl (MSt.fin0 HM.out (HS2.out.bel.trans (HU9.out.below HS2.out.low HS2.out.bel.size)) (by rw [← Hbi.out]; exact post_ask (HRl.out.ne h0) (by show some (resC 0 true (bitI (memB (regL Ls oa) ob))) = _; rw [HBv.out])))
set_option maxRecDepth 100000 in
set_option maxHeartbeats 2000000 in
theorem ms14_walk (mb : Nat) (a : Option Addr) (G : List (Nat × (Nat → Bool))) (oa ob : Int) (ia : Option Addr) (inn ic : Nat) (iv : List (Int × Int)) (ra : Option Addr) (rn rc : Nat) (rg : List Int) (Ls : List (List (Int × Int))) (w : World) (h : MMach mb a G w) (ho : OpOk w ⟨14, oa, ob, ia, inn, ic, iv, ra, rn, rc, rg⟩) (hR : Rel (G.map (·.2)) Ls) (hN : ∀ l ∈ Ls, Nrm l) (h0 : 0 < G.length) (hrn : rn ≤ 65536) :
    Calls Try.prog 25 #[.pointer (some ⟨mb, 0, none⟩), .agg #[.int .i64 14, .int .i64 oa, .int .i64 ob, .slice ia inn ic, .slice ra rn rc]] w fun e w' => MSt mb a G ⟨14, oa, ob, ia, inn, ic, iv, ra, rn, rc, rg⟩ Ls w e w' := by
  have HM := hid h
  have HO := hid ho
  have HRl := hid hR
  have HNl := hid hN
  obtain ⟨q, hq⟩ : ∃ q, w.heap.size = q := ⟨_, rfl⟩
  obtain ⟨r, hr⟩ : ∃ r, q + 1 = r := ⟨_, rfl⟩
  have HS : Hid (S0 w q r [Value.int .i64 14, .int .i64 oa, .int .i64 ob, .slice ia inn ic, .slice ra rn rc] ((w.alloc (.cells #[Value.int .i64 14, .int .i64 oa, .int .i64 ob, .slice ia inn ic, .slice ra rn rc] 28)).alloc (.cells #[.int .i64 0, .bool false, .int .i64 0] 51))) := hid (S0.start w hq hr _)
  clear h ho hR hN
  go_enter Try.func25, Try.ntmps25
  go_upto_region 1 with fail
  generalize (w.alloc (.cells #[Value.int .i64 14, .int .i64 oa, .int .i64 ob, .slice ia inn ic, .slice ra rn rc] 28)).alloc (.cells #[.int .i64 0, .bool false, .int .i64 0] 51) = w1 at HS ⊢
  clear hq hr
  have o0 : w1.cell? ⟨q, 0, none⟩ = some (.int .i64 14) := HS.out.op.cell 0
  have o1 : w1.cell? ⟨q, 1, none⟩ = some (.int .i64 oa) := HS.out.op.cell 1
  have o2 : w1.cell? ⟨q, 2, none⟩ = some (.int .i64 ob) := HS.out.op.cell 2
  have o3 : w1.cell? ⟨q, 3, none⟩ = some (.slice ia inn ic) := HS.out.op.cell 3
  have o4 : w1.cell? ⟨q, 4, none⟩ = some (.slice ra rn rc) := HS.out.op.cell 4
  obtain ⟨p1, hp1, hf1⟩ := HRl.out.reg h0 oa
  obtain ⟨p2, hp2, hf2⟩ := HRl.out.reg h0 ob
  have HF1 := hid hf1
  have HF2 := hid hf2
  have hL0 : 0 < Ls.length := by have := HRl.out.len; rw [List.length_map] at this; omega
  have HN1 := hid (HNl.out _ (regL_mem hL0 oa))
  have HN2 := hid (HNl.out _ (regL_mem hL0 ob))
  have HG1 : Hid (∀ w2, Below w.heap.size w w2 → Blk w2 p1.1 4 (tabL p1.2)) := hid (fun w2 hb => (HM.out.tabs p1 (List.mem_of_getElem? hp1)).below hb)
  have HG2 : Hid (∀ w2, Below w.heap.size w w2 → Blk w2 p2.1 4 (tabL p2.2)) := hid (fun w2 hb => (HM.out.tabs p2 (List.mem_of_getElem? hp2)).below hb)
  have HRg1 : Hid (∀ w2, Below w.heap.size w w2 → Calls Try.prog 63 #[.pointer (some ⟨mb, 0, none⟩), .int .i64 oa] w2 fun e w3 => e = .returned (.slice (some ⟨p1.1, 0, none⟩) 196608 196608) ∧ Below w2.heap.size w2 w3) := hid (fun w2 hb => mreg_walk mb a G oa p1 w2 (HM.out.below hb) HO.out.fa h0 hp1)
  have HRg2 : Hid (∀ w2, Below w.heap.size w w2 → Calls Try.prog 63 #[.pointer (some ⟨mb, 0, none⟩), .int .i64 ob] w2 fun e w3 => e = .returned (.slice (some ⟨p2.1, 0, none⟩) 196608 196608) ∧ Below w2.heap.size w2 w3) := hid (fun w2 hb => mreg_walk mb a G ob p2 w2 (HM.out.below hb) HO.out.fb h0 hp2)
  obtain ⟨N, hNN⟩ : ∃ N, G.length = N := ⟨_, rfl⟩
  obtain ⟨mc, hmc, _⟩ := (HM.out.below HS.out.bel).out
  rw [hNN] at hmc
  have cm : w1.cell? ⟨mb, 0, none⟩ = some (.slice a N mc) := hmc.cell 0
  have dN : ((N : Int) == 0) = false := by rw [beq_eq_false_iff_ne]; omega
  clear hp1 hp2 hf1 hf2 hNN hmc
  go_upto_region 60 with fail
  obtain ⟨X, W, hT, hI⟩ := class_mk (fun w2 => S0 w q r [Value.int .i64 14, .int .i64 oa, .int .i64 ob, .slice ia inn ic, .slice ra rn rc] w2)
  have HCl : Hid (∀ x w2, Below (W x).heap.size (W x) w2 → ∃ y, w2 = W y) := hid (fun x w2 hb => hI _ ((hT x).below hb))
  have H0 : Hid (∃ x, w1.drew = W x) := hid (hI _ (HS.out.below (Drew.below ⟨1, rfl⟩ _)))
  have hne : Nonempty X := ⟨H0.out.choose⟩
  have e1 : ∀ x, (W x).cell? ⟨q, 1, none⟩ = some (.int .i64 oa) := fun x => (hT x).op.cell 1
  have e2 : ∀ x, (W x).cell? ⟨q, 2, none⟩ = some (.int .i64 ob) := fun x => (hT x).op.cell 2
  have HC1 : Hid (∀ x, Calls Try.prog 63 #[.pointer (some ⟨mb, 0, none⟩), .int .i64 oa] (W x) fun e w3 => e = .returned (.slice (some ⟨p1.1, 0, none⟩) 196608 196608) ∧ Below (W x).heap.size (W x) w3) := hid (fun x => HRg1.out _ (hT x).bel)
  have HC2 : Hid (∀ x, Calls Try.prog 63 #[.pointer (some ⟨mb, 0, none⟩), .int .i64 ob] (W x) fun e w3 => e = .returned (.slice (some ⟨p2.1, 0, none⟩) 196608 196608) ∧ Below (W x).heap.size (W x) w3) := hid (fun x => HRg2.out _ (hT x).bel)
  have HTT := hid hT
  clear hT hI o0 o1 o2 o3 o4 cm dN HRg1 HRg2
  refine wp_region_class W rfl (by kernel_rfl) H0.out ?_
  repeat (go_big_quiet_step ((go_at_call 63; first | (with_reducible exact Calls.class_of HCl.out (HC1.out _)) | (with_reducible exact Calls.class_of HCl.out (HC2.out _)))))
  refine wpQuiet_nil ?_
  intro z
  have HS1 := hid (HTT.out z)
  generalize W z = wz at HS1 ⊢
  clear e1 e2 HCl H0 HTT HC1 HC2 hne HS
  have o0 : wz.cell? ⟨q, 0, none⟩ = some (.int .i64 14) := HS1.out.op.cell 0
  have o2 : wz.cell? ⟨q, 2, none⟩ = some (.int .i64 ob) := HS1.out.op.cell 2
  obtain ⟨m, hm⟩ : ∃ m, cntA p1.2 196608 = m := ⟨_, rfl⟩
  obtain ⟨B, hB⟩ : ∃ B, (m == 0) = B := ⟨_, rfl⟩
  have HBv : Hid ((regL Ls oa).isEmpty = B) := hid (by rw [← hB, ← hm]; exact (cnt_empty HN1.out HF1.out).symm)
  have HCo : Hid (Calls Try.prog 73 #[.slice (some ⟨p1.1, 0, none⟩) 196608 196608] wz fun e w' => e = .returned (.int .i64 m) ∧ w' = wz) := hid (by rw [← hm]; exact mcount_walk p1.1 p1.2 wz (HG1.out wz HS1.out.bel))
  have HS2 := HS1
  clear hm
  go_wp2_with fail
  refine HCo.out.mono ?_
  rintro e w2 ⟨rfl, hw2⟩
  have hw2' := hw2.symm
  clear hw2
  subst hw2'
  go_wp2_with fail
  refine (mtruth_walk B wz).mono ?_
  rintro e wt ⟨rfl, hbt⟩
  have HS3 := hid (HS2.out.below hbt)
  clear hbt HS2
  have HS2 := HS3
  obtain ⟨bi, hbi⟩ : ∃ bi, bitI B = bi := ⟨_, rfl⟩
  rw [hbi]
  have Hbi := hid hbi
  clear hbi
  have I0 : Hid ((Try.prog.info? 51).map (·.size) = some (resC 0 true bi).length) := hid info_res
  go_wp2_with (refine wpList_store_blk rfl 51 _ _ rfl r rfl (resC 0 true bi) rfl HS2.out.res rfl I0.out (res_one _ _ _) ?_; intro w9 HB9 HU9)
  exact bodyPost_ret (results_blk Try.results25 rfl (show AggOf Try.prog 51 (List.length (resC 0 true bi)) from aggRes) HB9.out) rfl (MSt.fin0 HM.out (HS2.out.bel.trans (HU9.out.below HS2.out.low HS2.out.bel.size)) (by rw [← Hbi.out]; exact post_ask (HRl.out.ne h0) (by show some (resC 0 true (bitI ((regL Ls oa).isEmpty))) = _; rw [HBv.out])))
set_option maxRecDepth 100000 in
set_option maxHeartbeats 2000000 in
theorem ms15_walk (mb : Nat) (a : Option Addr) (G : List (Nat × (Nat → Bool))) (oa ob : Int) (ia : Option Addr) (inn ic : Nat) (iv : List (Int × Int)) (ra : Option Addr) (rn rc : Nat) (rg : List Int) (Ls : List (List (Int × Int))) (w : World) (h : MMach mb a G w) (ho : OpOk w ⟨15, oa, ob, ia, inn, ic, iv, ra, rn, rc, rg⟩) (hR : Rel (G.map (·.2)) Ls) (hN : ∀ l ∈ Ls, Nrm l) (h0 : 0 < G.length) (hrn : rn ≤ 65536) :
    Calls Try.prog 25 #[.pointer (some ⟨mb, 0, none⟩), .agg #[.int .i64 15, .int .i64 oa, .int .i64 ob, .slice ia inn ic, .slice ra rn rc]] w fun e w' => MSt mb a G ⟨15, oa, ob, ia, inn, ic, iv, ra, rn, rc, rg⟩ Ls w e w' := by
  have HM := hid h
  have HO := hid ho
  have HRl := hid hR
  have HNl := hid hN
  obtain ⟨q, hq⟩ : ∃ q, w.heap.size = q := ⟨_, rfl⟩
  obtain ⟨r, hr⟩ : ∃ r, q + 1 = r := ⟨_, rfl⟩
  have HS : Hid (S0 w q r [Value.int .i64 15, .int .i64 oa, .int .i64 ob, .slice ia inn ic, .slice ra rn rc] ((w.alloc (.cells #[Value.int .i64 15, .int .i64 oa, .int .i64 ob, .slice ia inn ic, .slice ra rn rc] 28)).alloc (.cells #[.int .i64 0, .bool false, .int .i64 0] 51))) := hid (S0.start w hq hr _)
  clear h ho hR hN
  go_enter Try.func25, Try.ntmps25
  go_upto_region 1 with fail
  generalize (w.alloc (.cells #[Value.int .i64 15, .int .i64 oa, .int .i64 ob, .slice ia inn ic, .slice ra rn rc] 28)).alloc (.cells #[.int .i64 0, .bool false, .int .i64 0] 51) = w1 at HS ⊢
  clear hq hr
  have o0 : w1.cell? ⟨q, 0, none⟩ = some (.int .i64 15) := HS.out.op.cell 0
  have o1 : w1.cell? ⟨q, 1, none⟩ = some (.int .i64 oa) := HS.out.op.cell 1
  have o2 : w1.cell? ⟨q, 2, none⟩ = some (.int .i64 ob) := HS.out.op.cell 2
  have o3 : w1.cell? ⟨q, 3, none⟩ = some (.slice ia inn ic) := HS.out.op.cell 3
  have o4 : w1.cell? ⟨q, 4, none⟩ = some (.slice ra rn rc) := HS.out.op.cell 4
  obtain ⟨p1, hp1, hf1⟩ := HRl.out.reg h0 oa
  obtain ⟨p2, hp2, hf2⟩ := HRl.out.reg h0 ob
  have HF1 := hid hf1
  have HF2 := hid hf2
  have hL0 : 0 < Ls.length := by have := HRl.out.len; rw [List.length_map] at this; omega
  have HN1 := hid (HNl.out _ (regL_mem hL0 oa))
  have HN2 := hid (HNl.out _ (regL_mem hL0 ob))
  have HG1 : Hid (∀ w2, Below w.heap.size w w2 → Blk w2 p1.1 4 (tabL p1.2)) := hid (fun w2 hb => (HM.out.tabs p1 (List.mem_of_getElem? hp1)).below hb)
  have HG2 : Hid (∀ w2, Below w.heap.size w w2 → Blk w2 p2.1 4 (tabL p2.2)) := hid (fun w2 hb => (HM.out.tabs p2 (List.mem_of_getElem? hp2)).below hb)
  have HRg1 : Hid (∀ w2, Below w.heap.size w w2 → Calls Try.prog 63 #[.pointer (some ⟨mb, 0, none⟩), .int .i64 oa] w2 fun e w3 => e = .returned (.slice (some ⟨p1.1, 0, none⟩) 196608 196608) ∧ Below w2.heap.size w2 w3) := hid (fun w2 hb => mreg_walk mb a G oa p1 w2 (HM.out.below hb) HO.out.fa h0 hp1)
  have HRg2 : Hid (∀ w2, Below w.heap.size w w2 → Calls Try.prog 63 #[.pointer (some ⟨mb, 0, none⟩), .int .i64 ob] w2 fun e w3 => e = .returned (.slice (some ⟨p2.1, 0, none⟩) 196608 196608) ∧ Below w2.heap.size w2 w3) := hid (fun w2 hb => mreg_walk mb a G ob p2 w2 (HM.out.below hb) HO.out.fb h0 hp2)
  obtain ⟨N, hNN⟩ : ∃ N, G.length = N := ⟨_, rfl⟩
  obtain ⟨mc, hmc, _⟩ := (HM.out.below HS.out.bel).out
  rw [hNN] at hmc
  have cm : w1.cell? ⟨mb, 0, none⟩ = some (.slice a N mc) := hmc.cell 0
  have dN : ((N : Int) == 0) = false := by rw [beq_eq_false_iff_ne]; omega
  clear hp1 hp2 hf1 hf2 hNN hmc
  go_upto_region 60 with fail
  obtain ⟨X, W, hT, hI⟩ := class_mk (fun w2 => S0 w q r [Value.int .i64 15, .int .i64 oa, .int .i64 ob, .slice ia inn ic, .slice ra rn rc] w2)
  have HCl : Hid (∀ x w2, Below (W x).heap.size (W x) w2 → ∃ y, w2 = W y) := hid (fun x w2 hb => hI _ ((hT x).below hb))
  have H0 : Hid (∃ x, w1.drew = W x) := hid (hI _ (HS.out.below (Drew.below ⟨1, rfl⟩ _)))
  have hne : Nonempty X := ⟨H0.out.choose⟩
  have e1 : ∀ x, (W x).cell? ⟨q, 1, none⟩ = some (.int .i64 oa) := fun x => (hT x).op.cell 1
  have e2 : ∀ x, (W x).cell? ⟨q, 2, none⟩ = some (.int .i64 ob) := fun x => (hT x).op.cell 2
  have HC1 : Hid (∀ x, Calls Try.prog 63 #[.pointer (some ⟨mb, 0, none⟩), .int .i64 oa] (W x) fun e w3 => e = .returned (.slice (some ⟨p1.1, 0, none⟩) 196608 196608) ∧ Below (W x).heap.size (W x) w3) := hid (fun x => HRg1.out _ (hT x).bel)
  have HC2 : Hid (∀ x, Calls Try.prog 63 #[.pointer (some ⟨mb, 0, none⟩), .int .i64 ob] (W x) fun e w3 => e = .returned (.slice (some ⟨p2.1, 0, none⟩) 196608 196608) ∧ Below (W x).heap.size (W x) w3) := hid (fun x => HRg2.out _ (hT x).bel)
  have HTT := hid hT
  clear hT hI o0 o1 o2 o3 o4 cm dN HRg1 HRg2
  refine wp_region_class W rfl (by kernel_rfl) H0.out ?_
  repeat (go_big_quiet_step ((go_at_call 63; first | (with_reducible exact Calls.class_of HCl.out (HC1.out _)) | (with_reducible exact Calls.class_of HCl.out (HC2.out _)))))
  refine wpQuiet_nil ?_
  intro z
  have HS1 := hid (HTT.out z)
  generalize W z = wz at HS1 ⊢
  clear e1 e2 HCl H0 HTT HC1 HC2 hne HS
  have o0 : wz.cell? ⟨q, 0, none⟩ = some (.int .i64 15) := HS1.out.op.cell 0
  have o2 : wz.cell? ⟨q, 2, none⟩ = some (.int .i64 ob) := HS1.out.op.cell 2
  obtain ⟨m, hm⟩ : ∃ m, cntA p1.2 196608 = m := ⟨_, rfl⟩
  obtain ⟨B, hB⟩ : ∃ B, (m == 196608) = B := ⟨_, rfl⟩
  have HBv : Hid (allB (regL Ls oa) = B) := hid (by rw [← hB, ← hm]; exact (cnt_allB HN1.out HF1.out).symm)
  have HCo : Hid (Calls Try.prog 73 #[.slice (some ⟨p1.1, 0, none⟩) 196608 196608] wz fun e w' => e = .returned (.int .i64 m) ∧ w' = wz) := hid (by rw [← hm]; exact mcount_walk p1.1 p1.2 wz (HG1.out wz HS1.out.bel))
  have HS2 := HS1
  clear hm
  go_wp2_with fail
  refine HCo.out.mono ?_
  rintro e w2 ⟨rfl, hw2⟩
  have hw2' := hw2.symm
  clear hw2
  subst hw2'
  go_wp2_with fail
  refine (mtruth_walk B wz).mono ?_
  rintro e wt ⟨rfl, hbt⟩
  have HS3 := hid (HS2.out.below hbt)
  clear hbt HS2
  have HS2 := HS3
  obtain ⟨bi, hbi⟩ : ∃ bi, bitI B = bi := ⟨_, rfl⟩
  rw [hbi]
  have Hbi := hid hbi
  clear hbi
  have I0 : Hid ((Try.prog.info? 51).map (·.size) = some (resC 0 true bi).length) := hid info_res
  go_wp2_with (refine wpList_store_blk rfl 51 _ _ rfl r rfl (resC 0 true bi) rfl HS2.out.res rfl I0.out (res_one _ _ _) ?_; intro w9 HB9 HU9)
  exact bodyPost_ret (results_blk Try.results25 rfl (show AggOf Try.prog 51 (List.length (resC 0 true bi)) from aggRes) HB9.out) rfl (MSt.fin0 HM.out (HS2.out.bel.trans (HU9.out.below HS2.out.low HS2.out.bel.size)) (by rw [← Hbi.out]; exact post_ask (HRl.out.ne h0) (by show some (resC 0 true (bitI (allB (regL Ls oa)))) = _; rw [HBv.out])))
set_option maxRecDepth 100000 in
set_option maxHeartbeats 2000000 in
theorem ms16_walk (mb : Nat) (a : Option Addr) (G : List (Nat × (Nat → Bool))) (oa ob : Int) (ia : Option Addr) (inn ic : Nat) (iv : List (Int × Int)) (ra : Option Addr) (rn rc : Nat) (rg : List Int) (Ls : List (List (Int × Int))) (w : World) (h : MMach mb a G w) (ho : OpOk w ⟨16, oa, ob, ia, inn, ic, iv, ra, rn, rc, rg⟩) (hR : Rel (G.map (·.2)) Ls) (hN : ∀ l ∈ Ls, Nrm l) (h0 : 0 < G.length) (hrn : rn ≤ 65536) :
    Calls Try.prog 25 #[.pointer (some ⟨mb, 0, none⟩), .agg #[.int .i64 16, .int .i64 oa, .int .i64 ob, .slice ia inn ic, .slice ra rn rc]] w fun e w' => MSt mb a G ⟨16, oa, ob, ia, inn, ic, iv, ra, rn, rc, rg⟩ Ls w e w' := by
  have HM := hid h
  have HO := hid ho
  have HRl := hid hR
  have HNl := hid hN
  obtain ⟨q, hq⟩ : ∃ q, w.heap.size = q := ⟨_, rfl⟩
  obtain ⟨r, hr⟩ : ∃ r, q + 1 = r := ⟨_, rfl⟩
  have HS : Hid (S0 w q r [Value.int .i64 16, .int .i64 oa, .int .i64 ob, .slice ia inn ic, .slice ra rn rc] ((w.alloc (.cells #[Value.int .i64 16, .int .i64 oa, .int .i64 ob, .slice ia inn ic, .slice ra rn rc] 28)).alloc (.cells #[.int .i64 0, .bool false, .int .i64 0] 51))) := hid (S0.start w hq hr _)
  clear h ho hR hN
  go_enter Try.func25, Try.ntmps25
  go_upto_region 1 with fail
  generalize (w.alloc (.cells #[Value.int .i64 16, .int .i64 oa, .int .i64 ob, .slice ia inn ic, .slice ra rn rc] 28)).alloc (.cells #[.int .i64 0, .bool false, .int .i64 0] 51) = w1 at HS ⊢
  clear hq hr
  have o0 : w1.cell? ⟨q, 0, none⟩ = some (.int .i64 16) := HS.out.op.cell 0
  have o1 : w1.cell? ⟨q, 1, none⟩ = some (.int .i64 oa) := HS.out.op.cell 1
  have o2 : w1.cell? ⟨q, 2, none⟩ = some (.int .i64 ob) := HS.out.op.cell 2
  have o3 : w1.cell? ⟨q, 3, none⟩ = some (.slice ia inn ic) := HS.out.op.cell 3
  have o4 : w1.cell? ⟨q, 4, none⟩ = some (.slice ra rn rc) := HS.out.op.cell 4
  obtain ⟨p1, hp1, hf1⟩ := HRl.out.reg h0 oa
  obtain ⟨p2, hp2, hf2⟩ := HRl.out.reg h0 ob
  have HF1 := hid hf1
  have HF2 := hid hf2
  have hL0 : 0 < Ls.length := by have := HRl.out.len; rw [List.length_map] at this; omega
  have HN1 := hid (HNl.out _ (regL_mem hL0 oa))
  have HN2 := hid (HNl.out _ (regL_mem hL0 ob))
  have HG1 : Hid (∀ w2, Below w.heap.size w w2 → Blk w2 p1.1 4 (tabL p1.2)) := hid (fun w2 hb => (HM.out.tabs p1 (List.mem_of_getElem? hp1)).below hb)
  have HG2 : Hid (∀ w2, Below w.heap.size w w2 → Blk w2 p2.1 4 (tabL p2.2)) := hid (fun w2 hb => (HM.out.tabs p2 (List.mem_of_getElem? hp2)).below hb)
  have HRg1 : Hid (∀ w2, Below w.heap.size w w2 → Calls Try.prog 63 #[.pointer (some ⟨mb, 0, none⟩), .int .i64 oa] w2 fun e w3 => e = .returned (.slice (some ⟨p1.1, 0, none⟩) 196608 196608) ∧ Below w2.heap.size w2 w3) := hid (fun w2 hb => mreg_walk mb a G oa p1 w2 (HM.out.below hb) HO.out.fa h0 hp1)
  have HRg2 : Hid (∀ w2, Below w.heap.size w w2 → Calls Try.prog 63 #[.pointer (some ⟨mb, 0, none⟩), .int .i64 ob] w2 fun e w3 => e = .returned (.slice (some ⟨p2.1, 0, none⟩) 196608 196608) ∧ Below w2.heap.size w2 w3) := hid (fun w2 hb => mreg_walk mb a G ob p2 w2 (HM.out.below hb) HO.out.fb h0 hp2)
  obtain ⟨N, hNN⟩ : ∃ N, G.length = N := ⟨_, rfl⟩
  obtain ⟨mc, hmc, _⟩ := (HM.out.below HS.out.bel).out
  rw [hNN] at hmc
  have cm : w1.cell? ⟨mb, 0, none⟩ = some (.slice a N mc) := hmc.cell 0
  have dN : ((N : Int) == 0) = false := by rw [beq_eq_false_iff_ne]; omega
  clear hp1 hp2 hf1 hf2 hNN hmc
  go_upto_region 60 with fail
  obtain ⟨X, W, hT, hI⟩ := class_mk (fun w2 => S0 w q r [Value.int .i64 16, .int .i64 oa, .int .i64 ob, .slice ia inn ic, .slice ra rn rc] w2)
  have HCl : Hid (∀ x w2, Below (W x).heap.size (W x) w2 → ∃ y, w2 = W y) := hid (fun x w2 hb => hI _ ((hT x).below hb))
  have H0 : Hid (∃ x, w1.drew = W x) := hid (hI _ (HS.out.below (Drew.below ⟨1, rfl⟩ _)))
  have hne : Nonempty X := ⟨H0.out.choose⟩
  have e1 : ∀ x, (W x).cell? ⟨q, 1, none⟩ = some (.int .i64 oa) := fun x => (hT x).op.cell 1
  have e2 : ∀ x, (W x).cell? ⟨q, 2, none⟩ = some (.int .i64 ob) := fun x => (hT x).op.cell 2
  have HC1 : Hid (∀ x, Calls Try.prog 63 #[.pointer (some ⟨mb, 0, none⟩), .int .i64 oa] (W x) fun e w3 => e = .returned (.slice (some ⟨p1.1, 0, none⟩) 196608 196608) ∧ Below (W x).heap.size (W x) w3) := hid (fun x => HRg1.out _ (hT x).bel)
  have HC2 : Hid (∀ x, Calls Try.prog 63 #[.pointer (some ⟨mb, 0, none⟩), .int .i64 ob] (W x) fun e w3 => e = .returned (.slice (some ⟨p2.1, 0, none⟩) 196608 196608) ∧ Below (W x).heap.size (W x) w3) := hid (fun x => HRg2.out _ (hT x).bel)
  have HTT := hid hT
  clear hT hI o0 o1 o2 o3 o4 cm dN HRg1 HRg2
  refine wp_region_class W rfl (by kernel_rfl) H0.out ?_
  repeat (go_big_quiet_step ((go_at_call 63; first | (with_reducible exact Calls.class_of HCl.out (HC1.out _)) | (with_reducible exact Calls.class_of HCl.out (HC2.out _)))))
  refine wpQuiet_nil ?_
  intro z
  have HS1 := hid (HTT.out z)
  generalize W z = wz at HS1 ⊢
  clear e1 e2 HCl H0 HTT HC1 HC2 hne HS
  have o0 : wz.cell? ⟨q, 0, none⟩ = some (.int .i64 16) := HS1.out.op.cell 0
  have o2 : wz.cell? ⟨q, 2, none⟩ = some (.int .i64 ob) := HS1.out.op.cell 2
  have HCo := hid (mmin_walk p1.1 p1.2 wz (HG1.out wz HS1.out.bel))
  go_wp2_with fail
  refine HCo.out.mono ?_
  rintro e w2 ⟨⟨v, ok, rfl, hv⟩, hw2⟩
  have hw2' := hw2.symm
  clear hw2
  subst hw2'
  have HV := hid (min_of HN1.out HF1.out hv)
  clear hv HCo
  go_wp2_with fail
  refine (maybe_walk v ok wz).mono ?_
  rintro e wt ⟨rfl, hbt⟩
  have HS2 := hid (HS1.out.below hbt)
  clear hbt HS1
  obtain ⟨x0, ok0, v0, hnr⟩ : ∃ x0 ok0 v0, numR v ok = resC x0 ok0 v0 := by cases ok <;> exact ⟨_, _, _, rfl⟩
  rw [hnr] at HV ⊢
  clear hnr
  have I0 : Hid ((Try.prog.info? 51).map (·.size) = some (resC x0 ok0 v0).length) := hid info_res
  go_wp2_with (refine wpList_store_blk rfl 51 _ _ rfl r rfl (resC x0 ok0 v0) rfl HS2.out.res rfl I0.out (res_one _ _ _) ?_; intro w9 HB9 HU9)
  exact bodyPost_ret (results_blk Try.results25 rfl (show AggOf Try.prog 51 (List.length (resC x0 ok0 v0)) from aggRes) HB9.out) rfl (MSt.fin0 HM.out (HS2.out.bel.trans (HU9.out.below HS2.out.low HS2.out.bel.size)) (post_ask (HRl.out.ne h0) (by rw [HV.out]; rfl)))
set_option maxRecDepth 100000 in
set_option maxHeartbeats 2000000 in
theorem ms17_walk (mb : Nat) (a : Option Addr) (G : List (Nat × (Nat → Bool))) (oa ob : Int) (ia : Option Addr) (inn ic : Nat) (iv : List (Int × Int)) (ra : Option Addr) (rn rc : Nat) (rg : List Int) (Ls : List (List (Int × Int))) (w : World) (h : MMach mb a G w) (ho : OpOk w ⟨17, oa, ob, ia, inn, ic, iv, ra, rn, rc, rg⟩) (hR : Rel (G.map (·.2)) Ls) (hN : ∀ l ∈ Ls, Nrm l) (h0 : 0 < G.length) (hrn : rn ≤ 65536) :
    Calls Try.prog 25 #[.pointer (some ⟨mb, 0, none⟩), .agg #[.int .i64 17, .int .i64 oa, .int .i64 ob, .slice ia inn ic, .slice ra rn rc]] w fun e w' => MSt mb a G ⟨17, oa, ob, ia, inn, ic, iv, ra, rn, rc, rg⟩ Ls w e w' := by
  have HM := hid h
  have HO := hid ho
  have HRl := hid hR
  have HNl := hid hN
  obtain ⟨q, hq⟩ : ∃ q, w.heap.size = q := ⟨_, rfl⟩
  obtain ⟨r, hr⟩ : ∃ r, q + 1 = r := ⟨_, rfl⟩
  have HS : Hid (S0 w q r [Value.int .i64 17, .int .i64 oa, .int .i64 ob, .slice ia inn ic, .slice ra rn rc] ((w.alloc (.cells #[Value.int .i64 17, .int .i64 oa, .int .i64 ob, .slice ia inn ic, .slice ra rn rc] 28)).alloc (.cells #[.int .i64 0, .bool false, .int .i64 0] 51))) := hid (S0.start w hq hr _)
  clear h ho hR hN
  go_enter Try.func25, Try.ntmps25
  go_upto_region 1 with fail
  generalize (w.alloc (.cells #[Value.int .i64 17, .int .i64 oa, .int .i64 ob, .slice ia inn ic, .slice ra rn rc] 28)).alloc (.cells #[.int .i64 0, .bool false, .int .i64 0] 51) = w1 at HS ⊢
  clear hq hr
  have o0 : w1.cell? ⟨q, 0, none⟩ = some (.int .i64 17) := HS.out.op.cell 0
  have o1 : w1.cell? ⟨q, 1, none⟩ = some (.int .i64 oa) := HS.out.op.cell 1
  have o2 : w1.cell? ⟨q, 2, none⟩ = some (.int .i64 ob) := HS.out.op.cell 2
  have o3 : w1.cell? ⟨q, 3, none⟩ = some (.slice ia inn ic) := HS.out.op.cell 3
  have o4 : w1.cell? ⟨q, 4, none⟩ = some (.slice ra rn rc) := HS.out.op.cell 4
  obtain ⟨p1, hp1, hf1⟩ := HRl.out.reg h0 oa
  obtain ⟨p2, hp2, hf2⟩ := HRl.out.reg h0 ob
  have HF1 := hid hf1
  have HF2 := hid hf2
  have hL0 : 0 < Ls.length := by have := HRl.out.len; rw [List.length_map] at this; omega
  have HN1 := hid (HNl.out _ (regL_mem hL0 oa))
  have HN2 := hid (HNl.out _ (regL_mem hL0 ob))
  have HG1 : Hid (∀ w2, Below w.heap.size w w2 → Blk w2 p1.1 4 (tabL p1.2)) := hid (fun w2 hb => (HM.out.tabs p1 (List.mem_of_getElem? hp1)).below hb)
  have HG2 : Hid (∀ w2, Below w.heap.size w w2 → Blk w2 p2.1 4 (tabL p2.2)) := hid (fun w2 hb => (HM.out.tabs p2 (List.mem_of_getElem? hp2)).below hb)
  have HRg1 : Hid (∀ w2, Below w.heap.size w w2 → Calls Try.prog 63 #[.pointer (some ⟨mb, 0, none⟩), .int .i64 oa] w2 fun e w3 => e = .returned (.slice (some ⟨p1.1, 0, none⟩) 196608 196608) ∧ Below w2.heap.size w2 w3) := hid (fun w2 hb => mreg_walk mb a G oa p1 w2 (HM.out.below hb) HO.out.fa h0 hp1)
  have HRg2 : Hid (∀ w2, Below w.heap.size w w2 → Calls Try.prog 63 #[.pointer (some ⟨mb, 0, none⟩), .int .i64 ob] w2 fun e w3 => e = .returned (.slice (some ⟨p2.1, 0, none⟩) 196608 196608) ∧ Below w2.heap.size w2 w3) := hid (fun w2 hb => mreg_walk mb a G ob p2 w2 (HM.out.below hb) HO.out.fb h0 hp2)
  obtain ⟨N, hNN⟩ : ∃ N, G.length = N := ⟨_, rfl⟩
  obtain ⟨mc, hmc, _⟩ := (HM.out.below HS.out.bel).out
  rw [hNN] at hmc
  have cm : w1.cell? ⟨mb, 0, none⟩ = some (.slice a N mc) := hmc.cell 0
  have dN : ((N : Int) == 0) = false := by rw [beq_eq_false_iff_ne]; omega
  clear hp1 hp2 hf1 hf2 hNN hmc
  go_upto_region 60 with fail
  obtain ⟨X, W, hT, hI⟩ := class_mk (fun w2 => S0 w q r [Value.int .i64 17, .int .i64 oa, .int .i64 ob, .slice ia inn ic, .slice ra rn rc] w2)
  have HCl : Hid (∀ x w2, Below (W x).heap.size (W x) w2 → ∃ y, w2 = W y) := hid (fun x w2 hb => hI _ ((hT x).below hb))
  have H0 : Hid (∃ x, w1.drew = W x) := hid (hI _ (HS.out.below (Drew.below ⟨1, rfl⟩ _)))
  have hne : Nonempty X := ⟨H0.out.choose⟩
  have e1 : ∀ x, (W x).cell? ⟨q, 1, none⟩ = some (.int .i64 oa) := fun x => (hT x).op.cell 1
  have e2 : ∀ x, (W x).cell? ⟨q, 2, none⟩ = some (.int .i64 ob) := fun x => (hT x).op.cell 2
  have HC1 : Hid (∀ x, Calls Try.prog 63 #[.pointer (some ⟨mb, 0, none⟩), .int .i64 oa] (W x) fun e w3 => e = .returned (.slice (some ⟨p1.1, 0, none⟩) 196608 196608) ∧ Below (W x).heap.size (W x) w3) := hid (fun x => HRg1.out _ (hT x).bel)
  have HC2 : Hid (∀ x, Calls Try.prog 63 #[.pointer (some ⟨mb, 0, none⟩), .int .i64 ob] (W x) fun e w3 => e = .returned (.slice (some ⟨p2.1, 0, none⟩) 196608 196608) ∧ Below (W x).heap.size (W x) w3) := hid (fun x => HRg2.out _ (hT x).bel)
  have HTT := hid hT
  clear hT hI o0 o1 o2 o3 o4 cm dN HRg1 HRg2
  refine wp_region_class W rfl (by kernel_rfl) H0.out ?_
  repeat (go_big_quiet_step ((go_at_call 63; first | (with_reducible exact Calls.class_of HCl.out (HC1.out _)) | (with_reducible exact Calls.class_of HCl.out (HC2.out _)))))
  refine wpQuiet_nil ?_
  intro z
  have HS1 := hid (HTT.out z)
  generalize W z = wz at HS1 ⊢
  clear e1 e2 HCl H0 HTT HC1 HC2 hne HS
  have o0 : wz.cell? ⟨q, 0, none⟩ = some (.int .i64 17) := HS1.out.op.cell 0
  have o2 : wz.cell? ⟨q, 2, none⟩ = some (.int .i64 ob) := HS1.out.op.cell 2
  have HCo := hid (mmax_walk p1.1 p1.2 wz (HG1.out wz HS1.out.bel))
  go_wp2_with fail
  refine HCo.out.mono ?_
  rintro e w2 ⟨⟨v, ok, rfl, hv⟩, hw2⟩
  have hw2' := hw2.symm
  clear hw2
  subst hw2'
  have HV := hid (max_of HN1.out HF1.out hv)
  clear hv HCo
  go_wp2_with fail
  refine (maybe_walk v ok wz).mono ?_
  rintro e wt ⟨rfl, hbt⟩
  have HS2 := hid (HS1.out.below hbt)
  clear hbt HS1
  obtain ⟨x0, ok0, v0, hnr⟩ : ∃ x0 ok0 v0, numR v ok = resC x0 ok0 v0 := by cases ok <;> exact ⟨_, _, _, rfl⟩
  rw [hnr] at HV ⊢
  clear hnr
  have I0 : Hid ((Try.prog.info? 51).map (·.size) = some (resC x0 ok0 v0).length) := hid info_res
  go_wp2_with (refine wpList_store_blk rfl 51 _ _ rfl r rfl (resC x0 ok0 v0) rfl HS2.out.res rfl I0.out (res_one _ _ _) ?_; intro w9 HB9 HU9)
  exact bodyPost_ret (results_blk Try.results25 rfl (show AggOf Try.prog 51 (List.length (resC x0 ok0 v0)) from aggRes) HB9.out) rfl (MSt.fin0 HM.out (HS2.out.bel.trans (HU9.out.below HS2.out.low HS2.out.bel.size)) (post_ask (HRl.out.ne h0) (by rw [HV.out]; rfl)))
set_option maxRecDepth 100000 in
set_option maxHeartbeats 2000000 in
theorem ms18_walk (mb : Nat) (a : Option Addr) (G : List (Nat × (Nat → Bool))) (oa ob : Int) (ia : Option Addr) (inn ic : Nat) (iv : List (Int × Int)) (ra : Option Addr) (rn rc : Nat) (rg : List Int) (Ls : List (List (Int × Int))) (w : World) (h : MMach mb a G w) (ho : OpOk w ⟨18, oa, ob, ia, inn, ic, iv, ra, rn, rc, rg⟩) (hR : Rel (G.map (·.2)) Ls) (hN : ∀ l ∈ Ls, Nrm l) (h0 : 0 < G.length) (hrn : rn ≤ 65536) :
    Calls Try.prog 25 #[.pointer (some ⟨mb, 0, none⟩), .agg #[.int .i64 18, .int .i64 oa, .int .i64 ob, .slice ia inn ic, .slice ra rn rc]] w fun e w' => MSt mb a G ⟨18, oa, ob, ia, inn, ic, iv, ra, rn, rc, rg⟩ Ls w e w' := by
  have HM := hid h
  have HO := hid ho
  have HRl := hid hR
  have HNl := hid hN
  obtain ⟨q, hq⟩ : ∃ q, w.heap.size = q := ⟨_, rfl⟩
  obtain ⟨r, hr⟩ : ∃ r, q + 1 = r := ⟨_, rfl⟩
  have HS : Hid (S0 w q r [Value.int .i64 18, .int .i64 oa, .int .i64 ob, .slice ia inn ic, .slice ra rn rc] ((w.alloc (.cells #[Value.int .i64 18, .int .i64 oa, .int .i64 ob, .slice ia inn ic, .slice ra rn rc] 28)).alloc (.cells #[.int .i64 0, .bool false, .int .i64 0] 51))) := hid (S0.start w hq hr _)
  clear h ho hR hN
  go_enter Try.func25, Try.ntmps25
  go_upto_region 1 with fail
  generalize (w.alloc (.cells #[Value.int .i64 18, .int .i64 oa, .int .i64 ob, .slice ia inn ic, .slice ra rn rc] 28)).alloc (.cells #[.int .i64 0, .bool false, .int .i64 0] 51) = w1 at HS ⊢
  clear hq hr
  have o0 : w1.cell? ⟨q, 0, none⟩ = some (.int .i64 18) := HS.out.op.cell 0
  have o1 : w1.cell? ⟨q, 1, none⟩ = some (.int .i64 oa) := HS.out.op.cell 1
  have o2 : w1.cell? ⟨q, 2, none⟩ = some (.int .i64 ob) := HS.out.op.cell 2
  have o3 : w1.cell? ⟨q, 3, none⟩ = some (.slice ia inn ic) := HS.out.op.cell 3
  have o4 : w1.cell? ⟨q, 4, none⟩ = some (.slice ra rn rc) := HS.out.op.cell 4
  obtain ⟨p1, hp1, hf1⟩ := HRl.out.reg h0 oa
  obtain ⟨p2, hp2, hf2⟩ := HRl.out.reg h0 ob
  have HF1 := hid hf1
  have HF2 := hid hf2
  have hL0 : 0 < Ls.length := by have := HRl.out.len; rw [List.length_map] at this; omega
  have HN1 := hid (HNl.out _ (regL_mem hL0 oa))
  have HN2 := hid (HNl.out _ (regL_mem hL0 ob))
  have HG1 : Hid (∀ w2, Below w.heap.size w w2 → Blk w2 p1.1 4 (tabL p1.2)) := hid (fun w2 hb => (HM.out.tabs p1 (List.mem_of_getElem? hp1)).below hb)
  have HG2 : Hid (∀ w2, Below w.heap.size w w2 → Blk w2 p2.1 4 (tabL p2.2)) := hid (fun w2 hb => (HM.out.tabs p2 (List.mem_of_getElem? hp2)).below hb)
  have HRg1 : Hid (∀ w2, Below w.heap.size w w2 → Calls Try.prog 63 #[.pointer (some ⟨mb, 0, none⟩), .int .i64 oa] w2 fun e w3 => e = .returned (.slice (some ⟨p1.1, 0, none⟩) 196608 196608) ∧ Below w2.heap.size w2 w3) := hid (fun w2 hb => mreg_walk mb a G oa p1 w2 (HM.out.below hb) HO.out.fa h0 hp1)
  have HRg2 : Hid (∀ w2, Below w.heap.size w w2 → Calls Try.prog 63 #[.pointer (some ⟨mb, 0, none⟩), .int .i64 ob] w2 fun e w3 => e = .returned (.slice (some ⟨p2.1, 0, none⟩) 196608 196608) ∧ Below w2.heap.size w2 w3) := hid (fun w2 hb => mreg_walk mb a G ob p2 w2 (HM.out.below hb) HO.out.fb h0 hp2)
  obtain ⟨N, hNN⟩ : ∃ N, G.length = N := ⟨_, rfl⟩
  obtain ⟨mc, hmc, _⟩ := (HM.out.below HS.out.bel).out
  rw [hNN] at hmc
  have cm : w1.cell? ⟨mb, 0, none⟩ = some (.slice a N mc) := hmc.cell 0
  have dN : ((N : Int) == 0) = false := by rw [beq_eq_false_iff_ne]; omega
  clear hp1 hp2 hf1 hf2 hNN hmc
  go_upto_region 60 with fail
  obtain ⟨X, W, hT, hI⟩ := class_mk (fun w2 => S0 w q r [Value.int .i64 18, .int .i64 oa, .int .i64 ob, .slice ia inn ic, .slice ra rn rc] w2)
  have HCl : Hid (∀ x w2, Below (W x).heap.size (W x) w2 → ∃ y, w2 = W y) := hid (fun x w2 hb => hI _ ((hT x).below hb))
  have H0 : Hid (∃ x, w1.drew = W x) := hid (hI _ (HS.out.below (Drew.below ⟨1, rfl⟩ _)))
  have hne : Nonempty X := ⟨H0.out.choose⟩
  have e1 : ∀ x, (W x).cell? ⟨q, 1, none⟩ = some (.int .i64 oa) := fun x => (hT x).op.cell 1
  have e2 : ∀ x, (W x).cell? ⟨q, 2, none⟩ = some (.int .i64 ob) := fun x => (hT x).op.cell 2
  have HC1 : Hid (∀ x, Calls Try.prog 63 #[.pointer (some ⟨mb, 0, none⟩), .int .i64 oa] (W x) fun e w3 => e = .returned (.slice (some ⟨p1.1, 0, none⟩) 196608 196608) ∧ Below (W x).heap.size (W x) w3) := hid (fun x => HRg1.out _ (hT x).bel)
  have HC2 : Hid (∀ x, Calls Try.prog 63 #[.pointer (some ⟨mb, 0, none⟩), .int .i64 ob] (W x) fun e w3 => e = .returned (.slice (some ⟨p2.1, 0, none⟩) 196608 196608) ∧ Below (W x).heap.size (W x) w3) := hid (fun x => HRg2.out _ (hT x).bel)
  have HTT := hid hT
  clear hT hI o0 o1 o2 o3 o4 cm dN HRg1 HRg2
  refine wp_region_class W rfl (by kernel_rfl) H0.out ?_
  repeat (go_big_quiet_step ((go_at_call 63; first | (with_reducible exact Calls.class_of HCl.out (HC1.out _)) | (with_reducible exact Calls.class_of HCl.out (HC2.out _)))))
  refine wpQuiet_nil ?_
  intro z
  have HS1 := hid (HTT.out z)
  generalize W z = wz at HS1 ⊢
  clear e1 e2 HCl H0 HTT HC1 HC2 hne HS
  have o0 : wz.cell? ⟨q, 0, none⟩ = some (.int .i64 18) := HS1.out.op.cell 0
  have o2 : wz.cell? ⟨q, 2, none⟩ = some (.int .i64 ob) := HS1.out.op.cell 2
  obtain ⟨m, hm⟩ : ∃ m, cntA p1.2 196608 = m := ⟨_, rfl⟩
  have HBv : Hid (countL (regL Ls oa) = m) := hid (by rw [← hm]; exact (cnt_of HN1.out HF1.out).symm)
  have HCo : Hid (Calls Try.prog 73 #[.slice (some ⟨p1.1, 0, none⟩) 196608 196608] wz fun e w' => e = .returned (.int .i64 m) ∧ w' = wz) := hid (by rw [← hm]; exact mcount_walk p1.1 p1.2 wz (HG1.out wz HS1.out.bel))
  have HS2 := HS1
  clear hm
  go_wp2_with fail
  refine HCo.out.mono ?_
  rintro e w2 ⟨rfl, hw2⟩
  have hw2' := hw2.symm
  clear hw2
  subst hw2'
  have I0 : Hid ((Try.prog.info? 51).map (·.size) = some (resC 0 true m).length) := hid info_res
  go_wp2_with (refine wpList_store_blk rfl 51 _ _ rfl r rfl (resC 0 true m) rfl HS2.out.res rfl I0.out (res_one _ _ _) ?_; intro w9 HB9 HU9)
  exact bodyPost_ret (results_blk Try.results25 rfl (show AggOf Try.prog 51 (List.length (resC 0 true m)) from aggRes) HB9.out) rfl (MSt.fin0 HM.out (HS2.out.bel.trans (HU9.out.below HS2.out.low HS2.out.bel.size)) (post_ask (HRl.out.ne h0) (by rw [← HBv.out]; rfl)))
set_option maxRecDepth 100000 in
set_option maxHeartbeats 2000000 in
theorem ms19_walk (mb : Nat) (a : Option Addr) (G : List (Nat × (Nat → Bool))) (oa ob : Int) (ia : Option Addr) (inn ic : Nat) (iv : List (Int × Int)) (ra : Option Addr) (rn rc : Nat) (rg : List Int) (Ls : List (List (Int × Int))) (w : World) (h : MMach mb a G w) (ho : OpOk w ⟨19, oa, ob, ia, inn, ic, iv, ra, rn, rc, rg⟩) (hR : Rel (G.map (·.2)) Ls) (hN : ∀ l ∈ Ls, Nrm l) (h0 : 0 < G.length) (hrn : rn ≤ 65536) :
    Calls Try.prog 25 #[.pointer (some ⟨mb, 0, none⟩), .agg #[.int .i64 19, .int .i64 oa, .int .i64 ob, .slice ia inn ic, .slice ra rn rc]] w fun e w' => MSt mb a G ⟨19, oa, ob, ia, inn, ic, iv, ra, rn, rc, rg⟩ Ls w e w' := by
  have HM := hid h
  have HO := hid ho
  have HRl := hid hR
  have HNl := hid hN
  obtain ⟨q, hq⟩ : ∃ q, w.heap.size = q := ⟨_, rfl⟩
  obtain ⟨r, hr⟩ : ∃ r, q + 1 = r := ⟨_, rfl⟩
  have HS : Hid (S0 w q r [Value.int .i64 19, .int .i64 oa, .int .i64 ob, .slice ia inn ic, .slice ra rn rc] ((w.alloc (.cells #[Value.int .i64 19, .int .i64 oa, .int .i64 ob, .slice ia inn ic, .slice ra rn rc] 28)).alloc (.cells #[.int .i64 0, .bool false, .int .i64 0] 51))) := hid (S0.start w hq hr _)
  clear h ho hR hN
  go_enter Try.func25, Try.ntmps25
  go_upto_region 1 with fail
  generalize (w.alloc (.cells #[Value.int .i64 19, .int .i64 oa, .int .i64 ob, .slice ia inn ic, .slice ra rn rc] 28)).alloc (.cells #[.int .i64 0, .bool false, .int .i64 0] 51) = w1 at HS ⊢
  clear hq hr
  have o0 : w1.cell? ⟨q, 0, none⟩ = some (.int .i64 19) := HS.out.op.cell 0
  have o1 : w1.cell? ⟨q, 1, none⟩ = some (.int .i64 oa) := HS.out.op.cell 1
  have o2 : w1.cell? ⟨q, 2, none⟩ = some (.int .i64 ob) := HS.out.op.cell 2
  have o3 : w1.cell? ⟨q, 3, none⟩ = some (.slice ia inn ic) := HS.out.op.cell 3
  have o4 : w1.cell? ⟨q, 4, none⟩ = some (.slice ra rn rc) := HS.out.op.cell 4
  obtain ⟨p1, hp1, hf1⟩ := HRl.out.reg h0 oa
  obtain ⟨p2, hp2, hf2⟩ := HRl.out.reg h0 ob
  have HF1 := hid hf1
  have HF2 := hid hf2
  have hL0 : 0 < Ls.length := by have := HRl.out.len; rw [List.length_map] at this; omega
  have HN1 := hid (HNl.out _ (regL_mem hL0 oa))
  have HN2 := hid (HNl.out _ (regL_mem hL0 ob))
  have HG1 : Hid (∀ w2, Below w.heap.size w w2 → Blk w2 p1.1 4 (tabL p1.2)) := hid (fun w2 hb => (HM.out.tabs p1 (List.mem_of_getElem? hp1)).below hb)
  have HG2 : Hid (∀ w2, Below w.heap.size w w2 → Blk w2 p2.1 4 (tabL p2.2)) := hid (fun w2 hb => (HM.out.tabs p2 (List.mem_of_getElem? hp2)).below hb)
  have HRg1 : Hid (∀ w2, Below w.heap.size w w2 → Calls Try.prog 63 #[.pointer (some ⟨mb, 0, none⟩), .int .i64 oa] w2 fun e w3 => e = .returned (.slice (some ⟨p1.1, 0, none⟩) 196608 196608) ∧ Below w2.heap.size w2 w3) := hid (fun w2 hb => mreg_walk mb a G oa p1 w2 (HM.out.below hb) HO.out.fa h0 hp1)
  have HRg2 : Hid (∀ w2, Below w.heap.size w w2 → Calls Try.prog 63 #[.pointer (some ⟨mb, 0, none⟩), .int .i64 ob] w2 fun e w3 => e = .returned (.slice (some ⟨p2.1, 0, none⟩) 196608 196608) ∧ Below w2.heap.size w2 w3) := hid (fun w2 hb => mreg_walk mb a G ob p2 w2 (HM.out.below hb) HO.out.fb h0 hp2)
  obtain ⟨N, hNN⟩ : ∃ N, G.length = N := ⟨_, rfl⟩
  obtain ⟨mc, hmc, _⟩ := (HM.out.below HS.out.bel).out
  rw [hNN] at hmc
  have cm : w1.cell? ⟨mb, 0, none⟩ = some (.slice a N mc) := hmc.cell 0
  have dN : ((N : Int) == 0) = false := by rw [beq_eq_false_iff_ne]; omega
  clear hp1 hp2 hf1 hf2 hNN hmc
  go_upto_region 60 with fail
  obtain ⟨X, W, hT, hI⟩ := class_mk (fun w2 => S0 w q r [Value.int .i64 19, .int .i64 oa, .int .i64 ob, .slice ia inn ic, .slice ra rn rc] w2)
  have HCl : Hid (∀ x w2, Below (W x).heap.size (W x) w2 → ∃ y, w2 = W y) := hid (fun x w2 hb => hI _ ((hT x).below hb))
  have H0 : Hid (∃ x, w1.drew = W x) := hid (hI _ (HS.out.below (Drew.below ⟨1, rfl⟩ _)))
  have hne : Nonempty X := ⟨H0.out.choose⟩
  have e1 : ∀ x, (W x).cell? ⟨q, 1, none⟩ = some (.int .i64 oa) := fun x => (hT x).op.cell 1
  have e2 : ∀ x, (W x).cell? ⟨q, 2, none⟩ = some (.int .i64 ob) := fun x => (hT x).op.cell 2
  have HC1 : Hid (∀ x, Calls Try.prog 63 #[.pointer (some ⟨mb, 0, none⟩), .int .i64 oa] (W x) fun e w3 => e = .returned (.slice (some ⟨p1.1, 0, none⟩) 196608 196608) ∧ Below (W x).heap.size (W x) w3) := hid (fun x => HRg1.out _ (hT x).bel)
  have HC2 : Hid (∀ x, Calls Try.prog 63 #[.pointer (some ⟨mb, 0, none⟩), .int .i64 ob] (W x) fun e w3 => e = .returned (.slice (some ⟨p2.1, 0, none⟩) 196608 196608) ∧ Below (W x).heap.size (W x) w3) := hid (fun x => HRg2.out _ (hT x).bel)
  have HTT := hid hT
  clear hT hI o0 o1 o2 o3 o4 cm dN HRg1 HRg2
  refine wp_region_class W rfl (by kernel_rfl) H0.out ?_
  repeat (go_big_quiet_step ((go_at_call 63; first | (with_reducible exact Calls.class_of HCl.out (HC1.out _)) | (with_reducible exact Calls.class_of HCl.out (HC2.out _)))))
  refine wpQuiet_nil ?_
  intro z
  have HS1 := hid (HTT.out z)
  generalize W z = wz at HS1 ⊢
  clear e1 e2 HCl H0 HTT HC1 HC2 hne HS
  have o0 : wz.cell? ⟨q, 0, none⟩ = some (.int .i64 19) := HS1.out.op.cell 0
  have o2 : wz.cell? ⟨q, 2, none⟩ = some (.int .i64 ob) := HS1.out.op.cell 2
  go_wp2_with fail
  refine (comb7_walk p1.1 p2.1 p1.2 p2.2 wz (HG1.out wz HS1.out.bel) (HG2.out wz HS1.out.bel)).mono ?_
  rintro e w2 ⟨g, rfl, hg, hTb⟩
  have HS2 := hid (HS1.out.below hTb.bel)
  have HT : Hid (Blk w2 g 4 (tabL fun i => p1.2 i != p2.2 i)) := hid hTb.blk
  clear hg hTb o0 o2
  obtain ⟨m, hm⟩ : ∃ m, cntA (fun i => p1.2 i != p2.2 i) 196608 = m := ⟨_, rfl⟩
  obtain ⟨B, hB⟩ : ∃ B, (m == 0) = B := ⟨_, rfl⟩
  have HBv : Hid (decide (regL Ls oa = regL Ls ob) = B) := hid (by rw [← hB, ← hm]; exact (cnt_eq HN1.out HN2.out HF1.out HF2.out).symm)
  have HCo : Hid (Calls Try.prog 73 #[.slice (some ⟨g, 0, none⟩) 196608 196608] w2 fun e w' => e = .returned (.int .i64 m) ∧ w' = w2) := hid (by rw [← hm]; exact mcount_walk g _ w2 HT.out)
  clear hm
  go_wp2_with fail
  refine HCo.out.mono ?_
  rintro e w3 ⟨rfl, hw2⟩
  have hw2' := hw2.symm
  clear hw2
  subst hw2'
  go_wp2_with fail
  refine (mtruth_walk B w2).mono ?_
  rintro e wt ⟨rfl, hbt⟩
  have HS3 := hid (HS2.out.below hbt)
  clear hbt HS2
  have HS2 := HS3
  obtain ⟨bi, hbi⟩ : ∃ bi, bitI B = bi := ⟨_, rfl⟩
  rw [hbi]
  have Hbi := hid hbi
  clear hbi
  have I0 : Hid ((Try.prog.info? 51).map (·.size) = some (resC 0 true bi).length) := hid info_res
  go_wp2_with (refine wpList_store_blk rfl 51 _ _ rfl r rfl (resC 0 true bi) rfl HS2.out.res rfl I0.out (res_one _ _ _) ?_; intro w9 HB9 HU9)
  exact bodyPost_ret (results_blk Try.results25 rfl (show AggOf Try.prog 51 (List.length (resC 0 true bi)) from aggRes) HB9.out) rfl (MSt.fin0 HM.out (HS2.out.bel.trans (HU9.out.below HS2.out.low HS2.out.bel.size)) (by rw [← Hbi.out]; exact post_ask (HRl.out.ne h0) (by show some (resC 0 true (bitI (decide (regL Ls oa = regL Ls ob)))) = _; rw [HBv.out])))
set_option maxRecDepth 100000 in
set_option maxHeartbeats 2000000 in
theorem ms20_walk (mb : Nat) (a : Option Addr) (G : List (Nat × (Nat → Bool))) (oa ob : Int) (ia : Option Addr) (inn ic : Nat) (iv : List (Int × Int)) (ra : Option Addr) (rn rc : Nat) (rg : List Int) (Ls : List (List (Int × Int))) (w : World) (h : MMach mb a G w) (ho : OpOk w ⟨20, oa, ob, ia, inn, ic, iv, ra, rn, rc, rg⟩) (hR : Rel (G.map (·.2)) Ls) (hN : ∀ l ∈ Ls, Nrm l) (h0 : 0 < G.length) (hrn : rn ≤ 65536) :
    Calls Try.prog 25 #[.pointer (some ⟨mb, 0, none⟩), .agg #[.int .i64 20, .int .i64 oa, .int .i64 ob, .slice ia inn ic, .slice ra rn rc]] w fun e w' => MSt mb a G ⟨20, oa, ob, ia, inn, ic, iv, ra, rn, rc, rg⟩ Ls w e w' := by
  have HM := hid h
  have HO := hid ho
  have HRl := hid hR
  have HNl := hid hN
  obtain ⟨q, hq⟩ : ∃ q, w.heap.size = q := ⟨_, rfl⟩
  obtain ⟨r, hr⟩ : ∃ r, q + 1 = r := ⟨_, rfl⟩
  have HS : Hid (S0 w q r [Value.int .i64 20, .int .i64 oa, .int .i64 ob, .slice ia inn ic, .slice ra rn rc] ((w.alloc (.cells #[Value.int .i64 20, .int .i64 oa, .int .i64 ob, .slice ia inn ic, .slice ra rn rc] 28)).alloc (.cells #[.int .i64 0, .bool false, .int .i64 0] 51))) := hid (S0.start w hq hr _)
  clear h ho hR hN
  go_enter Try.func25, Try.ntmps25
  go_upto_region 1 with fail
  generalize (w.alloc (.cells #[Value.int .i64 20, .int .i64 oa, .int .i64 ob, .slice ia inn ic, .slice ra rn rc] 28)).alloc (.cells #[.int .i64 0, .bool false, .int .i64 0] 51) = w1 at HS ⊢
  clear hq hr
  have o0 : w1.cell? ⟨q, 0, none⟩ = some (.int .i64 20) := HS.out.op.cell 0
  have o1 : w1.cell? ⟨q, 1, none⟩ = some (.int .i64 oa) := HS.out.op.cell 1
  have o2 : w1.cell? ⟨q, 2, none⟩ = some (.int .i64 ob) := HS.out.op.cell 2
  have o3 : w1.cell? ⟨q, 3, none⟩ = some (.slice ia inn ic) := HS.out.op.cell 3
  have o4 : w1.cell? ⟨q, 4, none⟩ = some (.slice ra rn rc) := HS.out.op.cell 4
  obtain ⟨p1, hp1, hf1⟩ := HRl.out.reg h0 oa
  obtain ⟨p2, hp2, hf2⟩ := HRl.out.reg h0 ob
  have HF1 := hid hf1
  have HF2 := hid hf2
  have hL0 : 0 < Ls.length := by have := HRl.out.len; rw [List.length_map] at this; omega
  have HN1 := hid (HNl.out _ (regL_mem hL0 oa))
  have HN2 := hid (HNl.out _ (regL_mem hL0 ob))
  have HG1 : Hid (∀ w2, Below w.heap.size w w2 → Blk w2 p1.1 4 (tabL p1.2)) := hid (fun w2 hb => (HM.out.tabs p1 (List.mem_of_getElem? hp1)).below hb)
  have HG2 : Hid (∀ w2, Below w.heap.size w w2 → Blk w2 p2.1 4 (tabL p2.2)) := hid (fun w2 hb => (HM.out.tabs p2 (List.mem_of_getElem? hp2)).below hb)
  have HRg1 : Hid (∀ w2, Below w.heap.size w w2 → Calls Try.prog 63 #[.pointer (some ⟨mb, 0, none⟩), .int .i64 oa] w2 fun e w3 => e = .returned (.slice (some ⟨p1.1, 0, none⟩) 196608 196608) ∧ Below w2.heap.size w2 w3) := hid (fun w2 hb => mreg_walk mb a G oa p1 w2 (HM.out.below hb) HO.out.fa h0 hp1)
  have HRg2 : Hid (∀ w2, Below w.heap.size w w2 → Calls Try.prog 63 #[.pointer (some ⟨mb, 0, none⟩), .int .i64 ob] w2 fun e w3 => e = .returned (.slice (some ⟨p2.1, 0, none⟩) 196608 196608) ∧ Below w2.heap.size w2 w3) := hid (fun w2 hb => mreg_walk mb a G ob p2 w2 (HM.out.below hb) HO.out.fb h0 hp2)
  obtain ⟨N, hNN⟩ : ∃ N, G.length = N := ⟨_, rfl⟩
  obtain ⟨mc, hmc, _⟩ := (HM.out.below HS.out.bel).out
  rw [hNN] at hmc
  have cm : w1.cell? ⟨mb, 0, none⟩ = some (.slice a N mc) := hmc.cell 0
  have dN : ((N : Int) == 0) = false := by rw [beq_eq_false_iff_ne]; omega
  clear hp1 hp2 hf1 hf2 hNN hmc
  go_upto_region 60 with fail
  obtain ⟨X, W, hT, hI⟩ := class_mk (fun w2 => S0 w q r [Value.int .i64 20, .int .i64 oa, .int .i64 ob, .slice ia inn ic, .slice ra rn rc] w2)
  have HCl : Hid (∀ x w2, Below (W x).heap.size (W x) w2 → ∃ y, w2 = W y) := hid (fun x w2 hb => hI _ ((hT x).below hb))
  have H0 : Hid (∃ x, w1.drew = W x) := hid (hI _ (HS.out.below (Drew.below ⟨1, rfl⟩ _)))
  have hne : Nonempty X := ⟨H0.out.choose⟩
  have e1 : ∀ x, (W x).cell? ⟨q, 1, none⟩ = some (.int .i64 oa) := fun x => (hT x).op.cell 1
  have e2 : ∀ x, (W x).cell? ⟨q, 2, none⟩ = some (.int .i64 ob) := fun x => (hT x).op.cell 2
  have HC1 : Hid (∀ x, Calls Try.prog 63 #[.pointer (some ⟨mb, 0, none⟩), .int .i64 oa] (W x) fun e w3 => e = .returned (.slice (some ⟨p1.1, 0, none⟩) 196608 196608) ∧ Below (W x).heap.size (W x) w3) := hid (fun x => HRg1.out _ (hT x).bel)
  have HC2 : Hid (∀ x, Calls Try.prog 63 #[.pointer (some ⟨mb, 0, none⟩), .int .i64 ob] (W x) fun e w3 => e = .returned (.slice (some ⟨p2.1, 0, none⟩) 196608 196608) ∧ Below (W x).heap.size (W x) w3) := hid (fun x => HRg2.out _ (hT x).bel)
  have HTT := hid hT
  clear hT hI o0 o1 o2 o3 o4 cm dN HRg1 HRg2
  refine wp_region_class W rfl (by kernel_rfl) H0.out ?_
  repeat (go_big_quiet_step ((go_at_call 63; first | (with_reducible exact Calls.class_of HCl.out (HC1.out _)) | (with_reducible exact Calls.class_of HCl.out (HC2.out _)))))
  refine wpQuiet_nil ?_
  intro z
  have HS1 := hid (HTT.out z)
  generalize W z = wz at HS1 ⊢
  clear e1 e2 HCl H0 HTT HC1 HC2 hne HS
  have o0 : wz.cell? ⟨q, 0, none⟩ = some (.int .i64 20) := HS1.out.op.cell 0
  have o2 : wz.cell? ⟨q, 2, none⟩ = some (.int .i64 ob) := HS1.out.op.cell 2
  go_wp2_with fail
  refine (comb8_walk p1.1 p2.1 p1.2 p2.2 wz (HG1.out wz HS1.out.bel) (HG2.out wz HS1.out.bel)).mono ?_
  rintro e w2 ⟨g, rfl, hg, hTb⟩
  have HS2 := hid (HS1.out.below hTb.bel)
  have HT : Hid (Blk w2 g 4 (tabL fun i => p1.2 i && !p2.2 i)) := hid hTb.blk
  clear hg hTb o0 o2
  obtain ⟨m, hm⟩ : ∃ m, cntA (fun i => p1.2 i && !p2.2 i) 196608 = m := ⟨_, rfl⟩
  obtain ⟨B, hB⟩ : ∃ B, (m == 0) = B := ⟨_, rfl⟩
  have HBv : Hid (subB (regL Ls oa) (regL Ls ob) = B) := hid (by rw [← hB, ← hm]; exact (cnt_sub HN1.out HN2.out HF1.out HF2.out).symm)
  have HCo : Hid (Calls Try.prog 73 #[.slice (some ⟨g, 0, none⟩) 196608 196608] w2 fun e w' => e = .returned (.int .i64 m) ∧ w' = w2) := hid (by rw [← hm]; exact mcount_walk g _ w2 HT.out)
  clear hm
  go_wp2_with fail
  refine HCo.out.mono ?_
  rintro e w3 ⟨rfl, hw2⟩
  have hw2' := hw2.symm
  clear hw2
  subst hw2'
  go_wp2_with fail
  refine (mtruth_walk B w2).mono ?_
  rintro e wt ⟨rfl, hbt⟩
  have HS3 := hid (HS2.out.below hbt)
  clear hbt HS2
  have HS2 := HS3
  obtain ⟨bi, hbi⟩ : ∃ bi, bitI B = bi := ⟨_, rfl⟩
  rw [hbi]
  have Hbi := hid hbi
  clear hbi
  have I0 : Hid ((Try.prog.info? 51).map (·.size) = some (resC 0 true bi).length) := hid info_res
  go_wp2_with (refine wpList_store_blk rfl 51 _ _ rfl r rfl (resC 0 true bi) rfl HS2.out.res rfl I0.out (res_one _ _ _) ?_; intro w9 HB9 HU9)
  exact bodyPost_ret (results_blk Try.results25 rfl (show AggOf Try.prog 51 (List.length (resC 0 true bi)) from aggRes) HB9.out) rfl (MSt.fin0 HM.out (HS2.out.bel.trans (HU9.out.below HS2.out.low HS2.out.bel.size)) (by rw [← Hbi.out]; exact post_ask (HRl.out.ne h0) (by show some (resC 0 true (bitI (subB (regL Ls oa) (regL Ls ob)))) = _; rw [HBv.out])))
set_option maxRecDepth 100000 in
set_option maxHeartbeats 2000000 in
theorem ms21_walk (mb : Nat) (a : Option Addr) (G : List (Nat × (Nat → Bool))) (oa ob : Int) (ia : Option Addr) (inn ic : Nat) (iv : List (Int × Int)) (ra : Option Addr) (rn rc : Nat) (rg : List Int) (Ls : List (List (Int × Int))) (w : World) (h : MMach mb a G w) (ho : OpOk w ⟨21, oa, ob, ia, inn, ic, iv, ra, rn, rc, rg⟩) (hR : Rel (G.map (·.2)) Ls) (hN : ∀ l ∈ Ls, Nrm l) (h0 : 0 < G.length) (hrn : rn ≤ 65536) :
    Calls Try.prog 25 #[.pointer (some ⟨mb, 0, none⟩), .agg #[.int .i64 21, .int .i64 oa, .int .i64 ob, .slice ia inn ic, .slice ra rn rc]] w fun e w' => MSt mb a G ⟨21, oa, ob, ia, inn, ic, iv, ra, rn, rc, rg⟩ Ls w e w' := by
  have HM := hid h
  have HO := hid ho
  have HRl := hid hR
  have HNl := hid hN
  obtain ⟨q, hq⟩ : ∃ q, w.heap.size = q := ⟨_, rfl⟩
  obtain ⟨r, hr⟩ : ∃ r, q + 1 = r := ⟨_, rfl⟩
  have HS : Hid (S0 w q r [Value.int .i64 21, .int .i64 oa, .int .i64 ob, .slice ia inn ic, .slice ra rn rc] ((w.alloc (.cells #[Value.int .i64 21, .int .i64 oa, .int .i64 ob, .slice ia inn ic, .slice ra rn rc] 28)).alloc (.cells #[.int .i64 0, .bool false, .int .i64 0] 51))) := hid (S0.start w hq hr _)
  clear h ho hR hN
  go_enter Try.func25, Try.ntmps25
  go_upto_region 1 with fail
  generalize (w.alloc (.cells #[Value.int .i64 21, .int .i64 oa, .int .i64 ob, .slice ia inn ic, .slice ra rn rc] 28)).alloc (.cells #[.int .i64 0, .bool false, .int .i64 0] 51) = w1 at HS ⊢
  clear hq hr
  have o0 : w1.cell? ⟨q, 0, none⟩ = some (.int .i64 21) := HS.out.op.cell 0
  have o1 : w1.cell? ⟨q, 1, none⟩ = some (.int .i64 oa) := HS.out.op.cell 1
  have o2 : w1.cell? ⟨q, 2, none⟩ = some (.int .i64 ob) := HS.out.op.cell 2
  have o3 : w1.cell? ⟨q, 3, none⟩ = some (.slice ia inn ic) := HS.out.op.cell 3
  have o4 : w1.cell? ⟨q, 4, none⟩ = some (.slice ra rn rc) := HS.out.op.cell 4
  obtain ⟨p1, hp1, hf1⟩ := HRl.out.reg h0 oa
  obtain ⟨p2, hp2, hf2⟩ := HRl.out.reg h0 ob
  have HF1 := hid hf1
  have HF2 := hid hf2
  have hL0 : 0 < Ls.length := by have := HRl.out.len; rw [List.length_map] at this; omega
  have HN1 := hid (HNl.out _ (regL_mem hL0 oa))
  have HN2 := hid (HNl.out _ (regL_mem hL0 ob))
  have HG1 : Hid (∀ w2, Below w.heap.size w w2 → Blk w2 p1.1 4 (tabL p1.2)) := hid (fun w2 hb => (HM.out.tabs p1 (List.mem_of_getElem? hp1)).below hb)
  have HG2 : Hid (∀ w2, Below w.heap.size w w2 → Blk w2 p2.1 4 (tabL p2.2)) := hid (fun w2 hb => (HM.out.tabs p2 (List.mem_of_getElem? hp2)).below hb)
  have HRg1 : Hid (∀ w2, Below w.heap.size w w2 → Calls Try.prog 63 #[.pointer (some ⟨mb, 0, none⟩), .int .i64 oa] w2 fun e w3 => e = .returned (.slice (some ⟨p1.1, 0, none⟩) 196608 196608) ∧ Below w2.heap.size w2 w3) := hid (fun w2 hb => mreg_walk mb a G oa p1 w2 (HM.out.below hb) HO.out.fa h0 hp1)
  have HRg2 : Hid (∀ w2, Below w.heap.size w w2 → Calls Try.prog 63 #[.pointer (some ⟨mb, 0, none⟩), .int .i64 ob] w2 fun e w3 => e = .returned (.slice (some ⟨p2.1, 0, none⟩) 196608 196608) ∧ Below w2.heap.size w2 w3) := hid (fun w2 hb => mreg_walk mb a G ob p2 w2 (HM.out.below hb) HO.out.fb h0 hp2)
  obtain ⟨N, hNN⟩ : ∃ N, G.length = N := ⟨_, rfl⟩
  obtain ⟨mc, hmc, _⟩ := (HM.out.below HS.out.bel).out
  rw [hNN] at hmc
  have cm : w1.cell? ⟨mb, 0, none⟩ = some (.slice a N mc) := hmc.cell 0
  have dN : ((N : Int) == 0) = false := by rw [beq_eq_false_iff_ne]; omega
  clear hp1 hp2 hf1 hf2 hNN hmc
  go_upto_region 60 with fail
  obtain ⟨X, W, hT, hI⟩ := class_mk (fun w2 => S0 w q r [Value.int .i64 21, .int .i64 oa, .int .i64 ob, .slice ia inn ic, .slice ra rn rc] w2)
  have HCl : Hid (∀ x w2, Below (W x).heap.size (W x) w2 → ∃ y, w2 = W y) := hid (fun x w2 hb => hI _ ((hT x).below hb))
  have H0 : Hid (∃ x, w1.drew = W x) := hid (hI _ (HS.out.below (Drew.below ⟨1, rfl⟩ _)))
  have hne : Nonempty X := ⟨H0.out.choose⟩
  have e1 : ∀ x, (W x).cell? ⟨q, 1, none⟩ = some (.int .i64 oa) := fun x => (hT x).op.cell 1
  have e2 : ∀ x, (W x).cell? ⟨q, 2, none⟩ = some (.int .i64 ob) := fun x => (hT x).op.cell 2
  have HC1 : Hid (∀ x, Calls Try.prog 63 #[.pointer (some ⟨mb, 0, none⟩), .int .i64 oa] (W x) fun e w3 => e = .returned (.slice (some ⟨p1.1, 0, none⟩) 196608 196608) ∧ Below (W x).heap.size (W x) w3) := hid (fun x => HRg1.out _ (hT x).bel)
  have HC2 : Hid (∀ x, Calls Try.prog 63 #[.pointer (some ⟨mb, 0, none⟩), .int .i64 ob] (W x) fun e w3 => e = .returned (.slice (some ⟨p2.1, 0, none⟩) 196608 196608) ∧ Below (W x).heap.size (W x) w3) := hid (fun x => HRg2.out _ (hT x).bel)
  have HTT := hid hT
  clear hT hI o0 o1 o2 o3 o4 cm dN HRg1 HRg2
  refine wp_region_class W rfl (by kernel_rfl) H0.out ?_
  repeat (go_big_quiet_step ((go_at_call 63; first | (with_reducible exact Calls.class_of HCl.out (HC1.out _)) | (with_reducible exact Calls.class_of HCl.out (HC2.out _)))))
  refine wpQuiet_nil ?_
  intro z
  have HS1 := hid (HTT.out z)
  generalize W z = wz at HS1 ⊢
  clear e1 e2 HCl H0 HTT HC1 HC2 hne HS
  have o0 : wz.cell? ⟨q, 0, none⟩ = some (.int .i64 21) := HS1.out.op.cell 0
  have o2 : wz.cell? ⟨q, 2, none⟩ = some (.int .i64 ob) := HS1.out.op.cell 2
  go_wp2_with fail
  refine (comb9_walk p1.1 p2.1 p1.2 p2.2 wz (HG1.out wz HS1.out.bel) (HG2.out wz HS1.out.bel)).mono ?_
  rintro e w2 ⟨g, rfl, hg, hTb⟩
  have HS2 := hid (HS1.out.below hTb.bel)
  have HT : Hid (Blk w2 g 4 (tabL fun i => p1.2 i && p2.2 i)) := hid hTb.blk
  clear hg hTb o0 o2
  obtain ⟨m, hm⟩ : ∃ m, cntA (fun i => p1.2 i && p2.2 i) 196608 = m := ⟨_, rfl⟩
  obtain ⟨B, hB⟩ : ∃ B, decide (0 < m) = B := ⟨_, rfl⟩
  have HBv : Hid (ovB (regL Ls oa) (regL Ls ob) = B) := hid (by rw [← hB, ← hm]; exact (cnt_ov HN1.out HN2.out HF1.out HF2.out).symm)
  have HCo : Hid (Calls Try.prog 73 #[.slice (some ⟨g, 0, none⟩) 196608 196608] w2 fun e w' => e = .returned (.int .i64 m) ∧ w' = w2) := hid (by rw [← hm]; exact mcount_walk g _ w2 HT.out)
  clear hm
  go_wp2_with fail
  refine HCo.out.mono ?_
  rintro e w3 ⟨rfl, hw2⟩
  have hw2' := hw2.symm
  clear hw2
  subst hw2'
  go_wp2_with fail
  refine (mtruth_walk B w2).mono ?_
  rintro e wt ⟨rfl, hbt⟩
  have HS3 := hid (HS2.out.below hbt)
  clear hbt HS2
  have HS2 := HS3
  obtain ⟨bi, hbi⟩ : ∃ bi, bitI B = bi := ⟨_, rfl⟩
  rw [hbi]
  have Hbi := hid hbi
  clear hbi
  have I0 : Hid ((Try.prog.info? 51).map (·.size) = some (resC 0 true bi).length) := hid info_res
  go_wp2_with (refine wpList_store_blk rfl 51 _ _ rfl r rfl (resC 0 true bi) rfl HS2.out.res rfl I0.out (res_one _ _ _) ?_; intro w9 HB9 HU9)
  exact bodyPost_ret (results_blk Try.results25 rfl (show AggOf Try.prog 51 (List.length (resC 0 true bi)) from aggRes) HB9.out) rfl (MSt.fin0 HM.out (HS2.out.bel.trans (HU9.out.below HS2.out.low HS2.out.bel.size)) (by rw [← Hbi.out]; exact post_ask (HRl.out.ne h0) (by show some (resC 0 true (bitI (ovB (regL Ls oa) (regL Ls ob)))) = _; rw [HBv.out])))
set_option maxRecDepth 100000 in
set_option maxHeartbeats 2000000 in
theorem msX_walk (mb : Nat) (a : Option Addr) (G : List (Nat × (Nat → Bool))) (kind : Int) (oa ob : Int) (ia : Option Addr) (inn ic : Nat) (iv : List (Int × Int)) (ra : Option Addr) (rn rc : Nat) (rg : List Int) (Ls : List (List (Int × Int))) (w : World) (h : MMach mb a G w) (ho : OpOk w ⟨kind, oa, ob, ia, inn, ic, iv, ra, rn, rc, rg⟩) (hR : Rel (G.map (·.2)) Ls) (hN : ∀ l ∈ Ls, Nrm l) (h0 : 0 < G.length) (hrn : rn ≤ 65536) (hk : ¬ (0 ≤ kind ∧ kind ≤ 22)) :
    Calls Try.prog 25 #[.pointer (some ⟨mb, 0, none⟩), .agg #[.int .i64 kind, .int .i64 oa, .int .i64 ob, .slice ia inn ic, .slice ra rn rc]] w fun e w' => MSt mb a G ⟨kind, oa, ob, ia, inn, ic, iv, ra, rn, rc, rg⟩ Ls w e w' := by
  have HM := hid h
  have HO := hid ho
  have HRl := hid hR
  have HNl := hid hN
  obtain ⟨q, hq⟩ : ∃ q, w.heap.size = q := ⟨_, rfl⟩
  obtain ⟨r, hr⟩ : ∃ r, q + 1 = r := ⟨_, rfl⟩
  have HS : Hid (S0 w q r [Value.int .i64 kind, .int .i64 oa, .int .i64 ob, .slice ia inn ic, .slice ra rn rc] ((w.alloc (.cells #[Value.int .i64 kind, .int .i64 oa, .int .i64 ob, .slice ia inn ic, .slice ra rn rc] 28)).alloc (.cells #[.int .i64 0, .bool false, .int .i64 0] 51))) := hid (S0.start w hq hr _)
  clear h ho hR hN
  go_enter Try.func25, Try.ntmps25
  go_upto_region 1 with fail
  generalize (w.alloc (.cells #[Value.int .i64 kind, .int .i64 oa, .int .i64 ob, .slice ia inn ic, .slice ra rn rc] 28)).alloc (.cells #[.int .i64 0, .bool false, .int .i64 0] 51) = w1 at HS ⊢
  clear hq hr
  have o0 : w1.cell? ⟨q, 0, none⟩ = some (.int .i64 kind) := HS.out.op.cell 0
  have o1 : w1.cell? ⟨q, 1, none⟩ = some (.int .i64 oa) := HS.out.op.cell 1
  have o2 : w1.cell? ⟨q, 2, none⟩ = some (.int .i64 ob) := HS.out.op.cell 2
  have o3 : w1.cell? ⟨q, 3, none⟩ = some (.slice ia inn ic) := HS.out.op.cell 3
  have o4 : w1.cell? ⟨q, 4, none⟩ = some (.slice ra rn rc) := HS.out.op.cell 4
  have q0 : (kind == 0) = false := by rw [beq_eq_false_iff_ne]; omega
  have q1 : (kind == 1) = false := by rw [beq_eq_false_iff_ne]; omega
  have q2 : (kind == 2) = false := by rw [beq_eq_false_iff_ne]; omega
  have q3 : (kind == 3) = false := by rw [beq_eq_false_iff_ne]; omega
  have q4 : (kind == 4) = false := by rw [beq_eq_false_iff_ne]; omega
  have q5 : (kind == 5) = false := by rw [beq_eq_false_iff_ne]; omega
  have q6 : (kind == 6) = false := by rw [beq_eq_false_iff_ne]; omega
  have q7 : (kind == 7) = false := by rw [beq_eq_false_iff_ne]; omega
  have q8 : (kind == 8) = false := by rw [beq_eq_false_iff_ne]; omega
  have q9 : (kind == 9) = false := by rw [beq_eq_false_iff_ne]; omega
  have q10 : (kind == 10) = false := by rw [beq_eq_false_iff_ne]; omega
  have q11 : (kind == 11) = false := by rw [beq_eq_false_iff_ne]; omega
  have q12 : (kind == 12) = false := by rw [beq_eq_false_iff_ne]; omega
  have q13 : (kind == 13) = false := by rw [beq_eq_false_iff_ne]; omega
  have q14 : (kind == 14) = false := by rw [beq_eq_false_iff_ne]; omega
  have q15 : (kind == 15) = false := by rw [beq_eq_false_iff_ne]; omega
  have q16 : (kind == 16) = false := by rw [beq_eq_false_iff_ne]; omega
  have q17 : (kind == 17) = false := by rw [beq_eq_false_iff_ne]; omega
  have q18 : (kind == 18) = false := by rw [beq_eq_false_iff_ne]; omega
  have q19 : (kind == 19) = false := by rw [beq_eq_false_iff_ne]; omega
  have q20 : (kind == 20) = false := by rw [beq_eq_false_iff_ne]; omega
  have q21 : (kind == 21) = false := by rw [beq_eq_false_iff_ne]; omega
  have q22 : (kind == 22) = false := by rw [beq_eq_false_iff_ne]; omega
  obtain ⟨p1, hp1, hf1⟩ := HRl.out.reg h0 oa
  obtain ⟨p2, hp2, hf2⟩ := HRl.out.reg h0 ob
  have HF1 := hid hf1
  have HF2 := hid hf2
  have hL0 : 0 < Ls.length := by have := HRl.out.len; rw [List.length_map] at this; omega
  have HN1 := hid (HNl.out _ (regL_mem hL0 oa))
  have HN2 := hid (HNl.out _ (regL_mem hL0 ob))
  have HG1 : Hid (∀ w2, Below w.heap.size w w2 → Blk w2 p1.1 4 (tabL p1.2)) := hid (fun w2 hb => (HM.out.tabs p1 (List.mem_of_getElem? hp1)).below hb)
  have HG2 : Hid (∀ w2, Below w.heap.size w w2 → Blk w2 p2.1 4 (tabL p2.2)) := hid (fun w2 hb => (HM.out.tabs p2 (List.mem_of_getElem? hp2)).below hb)
  have HRg1 : Hid (∀ w2, Below w.heap.size w w2 → Calls Try.prog 63 #[.pointer (some ⟨mb, 0, none⟩), .int .i64 oa] w2 fun e w3 => e = .returned (.slice (some ⟨p1.1, 0, none⟩) 196608 196608) ∧ Below w2.heap.size w2 w3) := hid (fun w2 hb => mreg_walk mb a G oa p1 w2 (HM.out.below hb) HO.out.fa h0 hp1)
  have HRg2 : Hid (∀ w2, Below w.heap.size w w2 → Calls Try.prog 63 #[.pointer (some ⟨mb, 0, none⟩), .int .i64 ob] w2 fun e w3 => e = .returned (.slice (some ⟨p2.1, 0, none⟩) 196608 196608) ∧ Below w2.heap.size w2 w3) := hid (fun w2 hb => mreg_walk mb a G ob p2 w2 (HM.out.below hb) HO.out.fb h0 hp2)
  obtain ⟨N, hNN⟩ : ∃ N, G.length = N := ⟨_, rfl⟩
  obtain ⟨mc, hmc, _⟩ := (HM.out.below HS.out.bel).out
  rw [hNN] at hmc
  have cm : w1.cell? ⟨mb, 0, none⟩ = some (.slice a N mc) := hmc.cell 0
  have dN : ((N : Int) == 0) = false := by rw [beq_eq_false_iff_ne]; omega
  clear hp1 hp2 hf1 hf2 hNN hmc
  go_upto_region 60 with fail
  obtain ⟨X, W, hT, hI⟩ := class_mk (fun w2 => S0 w q r [Value.int .i64 kind, .int .i64 oa, .int .i64 ob, .slice ia inn ic, .slice ra rn rc] w2)
  have HCl : Hid (∀ x w2, Below (W x).heap.size (W x) w2 → ∃ y, w2 = W y) := hid (fun x w2 hb => hI _ ((hT x).below hb))
  have H0 : Hid (∃ x, w1.drew = W x) := hid (hI _ (HS.out.below (Drew.below ⟨1, rfl⟩ _)))
  have hne : Nonempty X := ⟨H0.out.choose⟩
  have e1 : ∀ x, (W x).cell? ⟨q, 1, none⟩ = some (.int .i64 oa) := fun x => (hT x).op.cell 1
  have e2 : ∀ x, (W x).cell? ⟨q, 2, none⟩ = some (.int .i64 ob) := fun x => (hT x).op.cell 2
  have HC1 : Hid (∀ x, Calls Try.prog 63 #[.pointer (some ⟨mb, 0, none⟩), .int .i64 oa] (W x) fun e w3 => e = .returned (.slice (some ⟨p1.1, 0, none⟩) 196608 196608) ∧ Below (W x).heap.size (W x) w3) := hid (fun x => HRg1.out _ (hT x).bel)
  have HC2 : Hid (∀ x, Calls Try.prog 63 #[.pointer (some ⟨mb, 0, none⟩), .int .i64 ob] (W x) fun e w3 => e = .returned (.slice (some ⟨p2.1, 0, none⟩) 196608 196608) ∧ Below (W x).heap.size (W x) w3) := hid (fun x => HRg2.out _ (hT x).bel)
  have HTT := hid hT
  clear hT hI o0 o1 o2 o3 o4 cm dN HRg1 HRg2
  refine wp_region_class W rfl (by kernel_rfl) H0.out ?_
  repeat (go_big_quiet_step ((go_at_call 63; first | (with_reducible exact Calls.class_of HCl.out (HC1.out _)) | (with_reducible exact Calls.class_of HCl.out (HC2.out _)))))
  refine wpQuiet_nil ?_
  intro z
  have HS1 := hid (HTT.out z)
  generalize W z = wz at HS1 ⊢
  clear e1 e2 HCl H0 HTT HC1 HC2 hne HS
  have o0 : wz.cell? ⟨q, 0, none⟩ = some (.int .i64 kind) := HS1.out.op.cell 0
  have o2 : wz.cell? ⟨q, 2, none⟩ = some (.int .i64 ob) := HS1.out.op.cell 2
  have HS2 := HS1
  have I0 : Hid ((Try.prog.info? 51).map (·.size) = some (resC 0 false 0).length) := hid info_res
  go_wp2_with (refine wpList_store_blk rfl 51 _ _ rfl r rfl (resC 0 false 0) rfl HS2.out.res rfl I0.out (res_one _ _ _) ?_; intro w9 HB9 HU9)
  exact bodyPost_ret (results_blk Try.results25 rfl (show AggOf Try.prog 51 (List.length (resC 0 false 0)) from aggRes) HB9.out) rfl (MSt.fin0 HM.out (HS2.out.bel.trans (HU9.out.below HS2.out.low HS2.out.bel.size)) (post_other (HRl.out.ne h0) hk))
set_option maxRecDepth 100000 in
set_option maxHeartbeats 2000000 in
theorem msN_walk (mb : Nat) (a : Option Addr) (G : List (Nat × (Nat → Bool))) (kind : Int) (oa ob : Int) (ia : Option Addr) (inn ic : Nat) (iv : List (Int × Int)) (ra : Option Addr) (rn rc : Nat) (rg : List Int) (Ls : List (List (Int × Int))) (w : World) (h : MMach mb a G w) (ho : OpOk w ⟨kind, oa, ob, ia, inn, ic, iv, ra, rn, rc, rg⟩) (hR : Rel (G.map (·.2)) Ls) (hN : ∀ l ∈ Ls, Nrm l) (hrn : rn ≤ 65536) (hk : ¬ (kind = 0 ∨ kind = 1 ∨ kind = 2 ∨ kind = 3 ∨ kind = 4 ∨ kind = 11)) (hG : G.length = 0) :
    Calls Try.prog 25 #[.pointer (some ⟨mb, 0, none⟩), .agg #[.int .i64 kind, .int .i64 oa, .int .i64 ob, .slice ia inn ic, .slice ra rn rc]] w fun e w' => MSt mb a G ⟨kind, oa, ob, ia, inn, ic, iv, ra, rn, rc, rg⟩ Ls w e w' := by
  have HM := hid h
  have HO := hid ho
  have HRl := hid hR
  have HNl := hid hN
  obtain ⟨q, hq⟩ : ∃ q, w.heap.size = q := ⟨_, rfl⟩
  obtain ⟨r, hr⟩ : ∃ r, q + 1 = r := ⟨_, rfl⟩
  have HS : Hid (S0 w q r [Value.int .i64 kind, .int .i64 oa, .int .i64 ob, .slice ia inn ic, .slice ra rn rc] ((w.alloc (.cells #[Value.int .i64 kind, .int .i64 oa, .int .i64 ob, .slice ia inn ic, .slice ra rn rc] 28)).alloc (.cells #[.int .i64 0, .bool false, .int .i64 0] 51))) := hid (S0.start w hq hr _)
  clear h ho hR hN
  go_enter Try.func25, Try.ntmps25
  go_upto_region 1 with fail
  generalize (w.alloc (.cells #[Value.int .i64 kind, .int .i64 oa, .int .i64 ob, .slice ia inn ic, .slice ra rn rc] 28)).alloc (.cells #[.int .i64 0, .bool false, .int .i64 0] 51) = w1 at HS ⊢
  clear hq hr
  have o0 : w1.cell? ⟨q, 0, none⟩ = some (.int .i64 kind) := HS.out.op.cell 0
  have o1 : w1.cell? ⟨q, 1, none⟩ = some (.int .i64 oa) := HS.out.op.cell 1
  have o2 : w1.cell? ⟨q, 2, none⟩ = some (.int .i64 ob) := HS.out.op.cell 2
  have o3 : w1.cell? ⟨q, 3, none⟩ = some (.slice ia inn ic) := HS.out.op.cell 3
  have o4 : w1.cell? ⟨q, 4, none⟩ = some (.slice ra rn rc) := HS.out.op.cell 4
  have q0 : (kind == 0) = false := by rw [beq_eq_false_iff_ne]; omega
  have q1 : (kind == 1) = false := by rw [beq_eq_false_iff_ne]; omega
  have q2 : (kind == 2) = false := by rw [beq_eq_false_iff_ne]; omega
  have q3 : (kind == 3) = false := by rw [beq_eq_false_iff_ne]; omega
  have q4 : (kind == 4) = false := by rw [beq_eq_false_iff_ne]; omega
  have q11 : (kind == 11) = false := by rw [beq_eq_false_iff_ne]; omega
  obtain ⟨mc, hmc, _⟩ := (HM.out.below HS.out.bel).out
  rw [hG] at hmc
  have cm : w1.cell? ⟨mb, 0, none⟩ = some (.slice a 0 mc) := hmc.cell 0
  have HS2 := HS
  have HLe : Hid (Ls = []) := hid (by have := HRl.out.len; rw [List.length_map, hG] at this; exact List.length_eq_zero_iff.1 this.symm)
  clear hmc hG
  have I0 : Hid ((Try.prog.info? 51).map (·.size) = some (resC 0 false 0).length) := hid info_res
  go_wp2_with (refine wpList_store_blk rfl 51 _ _ rfl r rfl (resC 0 false 0) rfl HS2.out.res rfl I0.out (res_one _ _ _) ?_; intro w9 HB9 HU9)
  exact bodyPost_ret (results_blk Try.results25 rfl (show AggOf Try.prog 51 (List.length (resC 0 false 0)) from aggRes) HB9.out) rfl (MSt.fin0 HM.out (HS2.out.bel.trans (HU9.out.below HS2.out.low HS2.out.bel.size)) (post_none (by unfold needB; rw [decide_eq_false (show ¬ kind = 0 by omega), decide_eq_false (show ¬ kind = 1 by omega), decide_eq_false (show ¬ kind = 2 by omega), decide_eq_false (show ¬ kind = 3 by omega), decide_eq_false (show ¬ kind = 4 by omega), decide_eq_false (show ¬ kind = 11 by omega)]; rfl) HLe.out))
end Go.Proofs.Qxb6500884a
