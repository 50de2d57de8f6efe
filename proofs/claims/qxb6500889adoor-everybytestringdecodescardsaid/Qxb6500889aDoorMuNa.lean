/- The model: step (written by tools/mk_mst.py). -/
import Derived.Test.Qxb6500889aDoorMuN7
namespace Go.Proofs.Qxb6500889aDoor
open Go.RowKit
set_option linter.unusedSimpArgs false
set_option linter.unusedVariables false
section
variable {w w' w'' wz : World} {σ σ' σ'' : Rl} {N N' : ML} {M M' : MS} {n m : Nat} {xs : List XBk}
set_option maxRecDepth 1000000 in
set_option maxHeartbeats 8000000 in
theorem mst_bad (h : MN w σ N M) (hb : MBd M n) (hn : n < 100000000000) (hids : MIds M) (o : OpP) (hob : OpB o) (room : Bool) (hac : 7 ≤ o.ac) :
    Calls Tryd.prog 23 #[.pointer (some ⟨N.mB, 0, none⟩), .agg (opC o).toArray, .bool room] w fun e w' => MsP w σ N M o room e w' := by
  have HD0 := hid (EM.two h o)
  obtain ⟨q, hq⟩ : ∃ q, w.heap.size = q := ⟨_, rfl⟩
  rw [hq] at HD0
  have HBd := hid hb
  have Hids := hid hids
  have I0 : Hid ((Tryd.prog.info? 36).map (·.size) = some 8) := hid info_rz
  have Hob := hid hob
  obtain ⟨mB, hmB⟩ : ∃ b, N.mB = b := ⟨_, rfl⟩
  have HmB := hid hmB
  rw [hmB]
  have b0 : (o.ac : Int) < 256 := by have := hob.ac; omega
  have b2 : (o.a : Int) < 18446744073709551616 := by have := hob.a; omega
  have b3 : (o.b : Int) < 18446744073709551616 := by have := hob.b; omega
  have b4 : (o.c : Int) < 18446744073709551616 := by have := hob.c; omega
  have g7 : decide ((o.ac : Int) ≥ 7) = true := decide_eq_true (by omega)
  have g7' : decide ((7 : Int) ≤ (o.ac : Int)) = true := decide_eq_true (by omega)
  have HEm : Hid (mDo M o room = (M, rzR 1)) := hid (by unfold mDo; rw [if_pos hac])
  clear h hb hids hob hmB
  go_enter Tryd.func23, Tryd.ntmps23
  go_upto_region 1 with fail
  obtain ⟨w1, hw1⟩ : ∃ w1, (w.alloc (.cells (opC o).toArray 31)).alloc (.cells (rzC (rzR 0)).toArray 36) = w1 := ⟨_, rfl⟩
  have HD : Hid (EM w σ N M [(q + 1, 36, rzC (rzR 0)), (q, 31, opC o)] w1) := by rw [← hw1]; exact HD0
  rw [show (w.alloc (.cells (opC o).toArray 31)).alloc (.cells #[.int .u8 0, .int .u64 0, .int .u64 0, .int .u64 0, .int .u64 0, .int .u64 0, .int .i64 0, .int .i64 0] 36) = w1 from hw1]
  clear hw1 HD0
  have c0 : w1.cell? ⟨q, 0, none⟩ = some (.int .u8 (o.ac : Int)) := (HD.out.bl (q, 31, opC o) (by simp)).1.cell 0
  have c1 : w1.cell? ⟨q, 1, none⟩ = some (.int .u8 (o.k : Int)) := (HD.out.bl (q, 31, opC o) (by simp)).1.cell 1
  have c2 : w1.cell? ⟨q, 2, none⟩ = some (.int .u64 (o.a : Int)) := (HD.out.bl (q, 31, opC o) (by simp)).1.cell 2
  have c3 : w1.cell? ⟨q, 3, none⟩ = some (.int .u64 (o.b : Int)) := (HD.out.bl (q, 31, opC o) (by simp)).1.cell 3
  go_wp2_with fail
  refine (mrefuse_walk 1 _).mono ?_
  rintro e w3 ⟨rfl, hb3⟩
  have HD3 := hid (HD.out.below hb3)
  clear HD hb3
  go_wp2_with (refine wpList_store_blk rfl 36 _ _ rfl (q + 1) rfl (rzC (rzR 1)) rfl (HD3.out.bl (q + 1, 36, rzC (rzR 0)) (by simp)).1 rfl I0.out (rz_one _) ?_; intro w9 HB9 HU9)
  have HM9 := (HD3.out.set (i := 0) rfl HB9.out HU9.out).out
  exact bodyPost_ret (results_blk Tryd.results23 rfl (show AggOf Tryd.prog 36 (rzC (rzR 1)).length from AggOf.struct Tryd.underlying36 info_rz) HB9.out) rfl
    (by unfold MsP; rw [HEm.out]; exact ⟨rfl, HM9⟩)
set_option maxRecDepth 1000000 in
set_option maxHeartbeats 8000000 in
theorem mst_coll (h : MN w σ N M) (hb : MBd M n) (hn : n < 100000000000) (hids : MIds M) (o : OpP) (hob : OpB o) (room : Bool) (hac : 4 ≤ o.ac) (hac2 : o.ac < 7) :
    Calls Tryd.prog 23 #[.pointer (some ⟨N.mB, 0, none⟩), .agg (opC o).toArray, .bool room] w fun e w' => MsP w σ N M o room e w' := by
  have HD0 := hid (EM.two h o)
  obtain ⟨q, hq⟩ : ∃ q, w.heap.size = q := ⟨_, rfl⟩
  rw [hq] at HD0
  have HBd := hid hb
  have Hids := hid hids
  have I0 : Hid ((Tryd.prog.info? 36).map (·.size) = some 8) := hid info_rz
  have Hob := hid hob
  obtain ⟨mB, hmB⟩ : ∃ b, N.mB = b := ⟨_, rfl⟩
  have HmB := hid hmB
  rw [hmB]
  have b0 : (o.ac : Int) < 256 := by have := hob.ac; omega
  have b2 : (o.a : Int) < 18446744073709551616 := by have := hob.a; omega
  have b3 : (o.b : Int) < 18446744073709551616 := by have := hob.b; omega
  have b4 : (o.c : Int) < 18446744073709551616 := by have := hob.c; omega
  have g7 : decide ((o.ac : Int) ≥ 7) = false := decide_eq_false (by omega)
  have g7' : decide ((7 : Int) ≤ (o.ac : Int)) = false := decide_eq_false (by omega)
  have g4 : decide ((o.ac : Int) ≥ 4) = true := decide_eq_true (by omega)
  have g4' : decide ((4 : Int) ≤ (o.ac : Int)) = true := decide_eq_true (by omega)
  have HEm : Hid (mDo M o room = (M, rzR 0)) := hid (by unfold mDo; rw [if_neg (by omega), if_pos hac])
  clear h hb hids hob hmB
  go_enter Tryd.func23, Tryd.ntmps23
  go_upto_region 1 with fail
  obtain ⟨w1, hw1⟩ : ∃ w1, (w.alloc (.cells (opC o).toArray 31)).alloc (.cells (rzC (rzR 0)).toArray 36) = w1 := ⟨_, rfl⟩
  have HD : Hid (EM w σ N M [(q + 1, 36, rzC (rzR 0)), (q, 31, opC o)] w1) := by rw [← hw1]; exact HD0
  rw [show (w.alloc (.cells (opC o).toArray 31)).alloc (.cells #[.int .u8 0, .int .u64 0, .int .u64 0, .int .u64 0, .int .u64 0, .int .u64 0, .int .i64 0, .int .i64 0] 36) = w1 from hw1]
  clear hw1 HD0
  have c0 : w1.cell? ⟨q, 0, none⟩ = some (.int .u8 (o.ac : Int)) := (HD.out.bl (q, 31, opC o) (by simp)).1.cell 0
  have c1 : w1.cell? ⟨q, 1, none⟩ = some (.int .u8 (o.k : Int)) := (HD.out.bl (q, 31, opC o) (by simp)).1.cell 1
  have c2 : w1.cell? ⟨q, 2, none⟩ = some (.int .u64 (o.a : Int)) := (HD.out.bl (q, 31, opC o) (by simp)).1.cell 2
  have c3 : w1.cell? ⟨q, 3, none⟩ = some (.int .u64 (o.b : Int)) := (HD.out.bl (q, 31, opC o) (by simp)).1.cell 3
  go_wp2_with (refine wpList_store_blk rfl 36 _ _ rfl (q + 1) rfl (rzC (rzR 0)) rfl (HD.out.bl (q + 1, 36, rzC (rzR 0)) (by simp)).1 rfl I0.out (rz_one _) ?_; intro w9 HB9 HU9)
  have HM9 := (HD.out.set (i := 0) rfl HB9.out HU9.out).out
  exact bodyPost_ret (results_blk Tryd.results23 rfl (show AggOf Tryd.prog 36 (rzC (rzR 0)).length from AggOf.struct Tryd.underlying36 info_rz) HB9.out) rfl
    (by unfold MsP; rw [HEm.out]; exact ⟨rfl, HM9⟩)
set_option maxRecDepth 1000000 in
set_option maxHeartbeats 8000000 in
theorem mst_kb (h : MN w σ N M) (hb : MBd M n) (hn : n < 100000000000) (hids : MIds M) (o : OpP) (hob : OpB o) (room : Bool) (hac : o.ac < 4) (hk : 9 ≤ o.k) :
    Calls Tryd.prog 23 #[.pointer (some ⟨N.mB, 0, none⟩), .agg (opC o).toArray, .bool room] w fun e w' => MsP w σ N M o room e w' := by
  have HD0 := hid (EM.two h o)
  obtain ⟨q, hq⟩ : ∃ q, w.heap.size = q := ⟨_, rfl⟩
  rw [hq] at HD0
  have HBd := hid hb
  have Hids := hid hids
  have I0 : Hid ((Tryd.prog.info? 36).map (·.size) = some 8) := hid info_rz
  have Hob := hid hob
  obtain ⟨mB, hmB⟩ : ∃ b, N.mB = b := ⟨_, rfl⟩
  have HmB := hid hmB
  rw [hmB]
  have b0 : (o.ac : Int) < 256 := by have := hob.ac; omega
  have b2 : (o.a : Int) < 18446744073709551616 := by have := hob.a; omega
  have b3 : (o.b : Int) < 18446744073709551616 := by have := hob.b; omega
  have b4 : (o.c : Int) < 18446744073709551616 := by have := hob.c; omega
  have g7 : decide ((o.ac : Int) ≥ 7) = false := decide_eq_false (by omega)
  have g7' : decide ((7 : Int) ≤ (o.ac : Int)) = false := decide_eq_false (by omega)
  have g4 : decide ((o.ac : Int) ≥ 4) = false := decide_eq_false (by omega)
  have g4' : decide ((4 : Int) ≤ (o.ac : Int)) = false := decide_eq_false (by omega)
  have e0 : ((o.k : Int) == 0) = false := by simp; omega
  have e6 : ((o.k : Int) == 6) = false := by simp; omega
  have e7 : ((o.k : Int) == 7) = false := by simp; omega
  have e8 : ((o.k : Int) == 8) = false := by simp; omega
  have g9 : decide ((o.k : Int) ≥ 9) = true := decide_eq_true (by omega)
  have g9' : decide ((9 : Int) ≤ (o.k : Int)) = true := decide_eq_true (by omega)
  have HEm : Hid (mDo M o room = (M, rzR 2)) := hid (by unfold mDo; rw [if_neg (by omega), if_neg (by omega), if_neg (by omega), if_neg (by omega), if_neg (by omega), if_neg (by omega), if_pos hk])
  clear h hb hids hob hmB
  go_enter Tryd.func23, Tryd.ntmps23
  go_upto_region 1 with fail
  obtain ⟨w1, hw1⟩ : ∃ w1, (w.alloc (.cells (opC o).toArray 31)).alloc (.cells (rzC (rzR 0)).toArray 36) = w1 := ⟨_, rfl⟩
  have HD : Hid (EM w σ N M [(q + 1, 36, rzC (rzR 0)), (q, 31, opC o)] w1) := by rw [← hw1]; exact HD0
  rw [show (w.alloc (.cells (opC o).toArray 31)).alloc (.cells #[.int .u8 0, .int .u64 0, .int .u64 0, .int .u64 0, .int .u64 0, .int .u64 0, .int .i64 0, .int .i64 0] 36) = w1 from hw1]
  clear hw1 HD0
  have c0 : w1.cell? ⟨q, 0, none⟩ = some (.int .u8 (o.ac : Int)) := (HD.out.bl (q, 31, opC o) (by simp)).1.cell 0
  have c1 : w1.cell? ⟨q, 1, none⟩ = some (.int .u8 (o.k : Int)) := (HD.out.bl (q, 31, opC o) (by simp)).1.cell 1
  have c2 : w1.cell? ⟨q, 2, none⟩ = some (.int .u64 (o.a : Int)) := (HD.out.bl (q, 31, opC o) (by simp)).1.cell 2
  have c3 : w1.cell? ⟨q, 3, none⟩ = some (.int .u64 (o.b : Int)) := (HD.out.bl (q, 31, opC o) (by simp)).1.cell 3
  go_wp2_with fail
  refine (mrefuse_walk 2 _).mono ?_
  rintro e w3 ⟨rfl, hb3⟩
  have HD3 := hid (HD.out.below hb3)
  clear HD hb3
  go_wp2_with (refine wpList_store_blk rfl 36 _ _ rfl (q + 1) rfl (rzC (rzR 2)) rfl (HD3.out.bl (q + 1, 36, rzC (rzR 0)) (by simp)).1 rfl I0.out (rz_one _) ?_; intro w9 HB9 HU9)
  have HM9 := (HD3.out.set (i := 0) rfl HB9.out HU9.out).out
  exact bodyPost_ret (results_blk Tryd.results23 rfl (show AggOf Tryd.prog 36 (rzC (rzR 2)).length from AggOf.struct Tryd.underlying36 info_rz) HB9.out) rfl
    (by unfold MsP; rw [HEm.out]; exact ⟨rfl, HM9⟩)
set_option maxRecDepth 1000000 in
set_option maxHeartbeats 8000000 in
theorem mst_0 (h : MN w σ N M) (hb : MBd M n) (hn : n < 100000000000) (hids : MIds M) (o : OpP) (hob : OpB o) (room : Bool) (hac : o.ac < 4) (hk : o.k = 0) :
    Calls Tryd.prog 23 #[.pointer (some ⟨N.mB, 0, none⟩), .agg (opC o).toArray, .bool room] w fun e w' => MsP w σ N M o room e w' := by
  have HD0 := hid (EM.two h o)
  obtain ⟨q, hq⟩ : ∃ q, w.heap.size = q := ⟨_, rfl⟩
  rw [hq] at HD0
  have HBd := hid hb
  have Hids := hid hids
  have I0 : Hid ((Tryd.prog.info? 36).map (·.size) = some 8) := hid info_rz
  have Hob := hid hob
  obtain ⟨mB, hmB⟩ : ∃ b, N.mB = b := ⟨_, rfl⟩
  have HmB := hid hmB
  rw [hmB]
  have b0 : (o.ac : Int) < 256 := by have := hob.ac; omega
  have b2 : (o.a : Int) < 18446744073709551616 := by have := hob.a; omega
  have b3 : (o.b : Int) < 18446744073709551616 := by have := hob.b; omega
  have b4 : (o.c : Int) < 18446744073709551616 := by have := hob.c; omega
  have g7 : decide ((o.ac : Int) ≥ 7) = false := decide_eq_false (by omega)
  have g7' : decide ((7 : Int) ≤ (o.ac : Int)) = false := decide_eq_false (by omega)
  have g4 : decide ((o.ac : Int) ≥ 4) = false := decide_eq_false (by omega)
  have g4' : decide ((4 : Int) ≤ (o.ac : Int)) = false := decide_eq_false (by omega)
  have ek : (o.k : Int) = 0 := by omega
  have e0 : ((o.k : Int) == 0) = true := by rw [ek]; rfl
  have e6 : ((o.k : Int) == 6) = false := by rw [ek]; rfl
  have e7 : ((o.k : Int) == 7) = false := by rw [ek]; rfl
  have e8 : ((o.k : Int) == 8) = false := by rw [ek]; rfl
  have g9 : decide ((o.k : Int) ≥ 9) = false := decide_eq_false (by omega)
  have g9' : decide ((9 : Int) ≤ (o.k : Int)) = false := decide_eq_false (by omega)
  have hk9 := hid hk
  clear ek
  have HEm : Hid (mDo M o room = ((mAlloc M o.ac o.a o.b room).1, (mAlloc M o.ac o.a o.b room).2)) := hid (by unfold mDo; rw [if_neg (by omega), if_neg (by omega), if_pos hk])
  clear h hb hids hob hmB
  go_enter Tryd.func23, Tryd.ntmps23
  go_upto_region 1 with fail
  obtain ⟨w1, hw1⟩ : ∃ w1, (w.alloc (.cells (opC o).toArray 31)).alloc (.cells (rzC (rzR 0)).toArray 36) = w1 := ⟨_, rfl⟩
  have HD : Hid (EM w σ N M [(q + 1, 36, rzC (rzR 0)), (q, 31, opC o)] w1) := by rw [← hw1]; exact HD0
  rw [show (w.alloc (.cells (opC o).toArray 31)).alloc (.cells #[.int .u8 0, .int .u64 0, .int .u64 0, .int .u64 0, .int .u64 0, .int .u64 0, .int .i64 0, .int .i64 0] 36) = w1 from hw1]
  clear hw1 HD0
  have c0 : w1.cell? ⟨q, 0, none⟩ = some (.int .u8 (o.ac : Int)) := (HD.out.bl (q, 31, opC o) (by simp)).1.cell 0
  have c1 : w1.cell? ⟨q, 1, none⟩ = some (.int .u8 (o.k : Int)) := (HD.out.bl (q, 31, opC o) (by simp)).1.cell 1
  have c2 : w1.cell? ⟨q, 2, none⟩ = some (.int .u64 (o.a : Int)) := (HD.out.bl (q, 31, opC o) (by simp)).1.cell 2
  have c3 : w1.cell? ⟨q, 3, none⟩ = some (.int .u64 (o.b : Int)) := (HD.out.bl (q, 31, opC o) (by simp)).1.cell 3
  have HC : Hid (Calls Tryd.prog 38 #[.pointer (some ⟨mB, 0, none⟩), .int .i64 (o.ac : Int), .int .u64 (o.a : Int), .int .u64 (o.b : Int), .bool room] w1 fun e w' => ∃ M', (e = .returned (.agg (rzC (mAlloc M o.ac o.a o.b room).2).toArray) ∧ M' = (mAlloc M o.ac o.a o.b room).1) ∧ EM w σ N M' [(q + 1, 36, rzC (rzR 0)), (q, 31, opC o)] w') := hid (by
    have := HD.out.call (f := 38) (args := fun x => #[.pointer (some ⟨x, 0, none⟩), .int .i64 (o.ac : Int), .int .u64 (o.a : Int), .int .u64 (o.b : Int), .bool room]) (R := fun e M' => e = .returned (.agg (rzC (mAlloc M o.ac o.a o.b room).2).toArray) ∧ M' = (mAlloc M o.ac o.a o.b room).1) (fun σ' N' hM => (mAlloc_walk hM HBd.out hn hac o.a o.b Hob.out.a Hob.out.b room).mono (fun e w' ⟨k1, k2⟩ => ⟨_, ⟨k1, rfl⟩, k2⟩))
    rw [HmB.out] at this
    exact this)
  go_wp2_with fail
  refine HC.out.mono ?_
  rintro e w2 ⟨M2, ⟨rfl, hM2⟩, hD2⟩
  have HD2 := hid hD2
  rw [← hM2] at HEm
  generalize (mAlloc M o.ac o.a o.b room).2 = z at HEm ⊢
  clear hD2 HC HD c0 c1 c2 c3 hM2
  as_aux_lemma =>
  go_wp2_with (refine wpList_store_blk rfl 36 _ _ rfl (q + 1) rfl (rzC (z)) rfl (HD2.out.bl (q + 1, 36, rzC (rzR 0)) (by simp)).1 rfl I0.out (rz_one _) ?_; intro w9 HB9 HU9)
  have HM9 := (HD2.out.set (i := 0) rfl HB9.out HU9.out).out
  exact bodyPost_ret (results_blk Tryd.results23 rfl (show AggOf Tryd.prog 36 (rzC (z)).length from AggOf.struct Tryd.underlying36 info_rz) HB9.out) rfl
    (by unfold MsP; rw [HEm.out]; exact ⟨rfl, HM9⟩)
end
end Go.Proofs.Qxb6500889aDoor
