/- The model: step (written by tools/mk_mst.py). -/
import Derived.Test.Qxb6500889aDoorMuN7
namespace Go.Proofs.Qxb6500889aDoor
open Go.RowKit
set_option linter.unusedSimpArgs false
set_option linter.unusedVariables false
section
variable {w w' w'' wz : World} {σ σ' σ'' : Rl} {N N' : ML} {M M' : MS} {n m : Nat} {xs : List XBk}
set_option maxRecDepth 1000000 in
set_option maxHeartbeats 8000000 in
theorem mst_nil (h : MN w σ N M) (hb : MBd M n) (hn : n < 100000000000) (hids : MIds M) (o : OpP) (hob : OpB o) (room : Bool) (hac : o.ac < 4) (hk : 1 ≤ o.k ∧ o.k ≤ 5) (hop : mOp M o.a = 0) :
    Calls Tryd.prog 23 #[.pointer (some ⟨N.mB, 0, none⟩), .agg (opC o).toArray, .bool room] w fun e w' => MsP w σ N M o room e w' := by
  have HD0 := hid (EM.two h o)
  obtain ⟨q, hq⟩ : ∃ q, w.heap.size = q := ⟨_, rfl⟩
  rw [hq] at HD0
  have HBd := hid hb
  have Hids := hid hids
  have I0 : Hid ((Tryd.prog.info? 36).map (·.size) = some 8) := hid info_rz
  have Hob := hid hob
  obtain ⟨mB, hmB⟩ : ∃ b, N.mB = b := ⟨_, rfl⟩
  have HmB := hid hmB
  rw [hmB]
  have b0 : (o.ac : Int) < 256 := by have := hob.ac; omega
  have b2 : (o.a : Int) < 18446744073709551616 := by have := hob.a; omega
  have b3 : (o.b : Int) < 18446744073709551616 := by have := hob.b; omega
  have b4 : (o.c : Int) < 18446744073709551616 := by have := hob.c; omega
  have g7 : decide ((o.ac : Int) ≥ 7) = false := decide_eq_false (by omega)
  have g7' : decide ((7 : Int) ≤ (o.ac : Int)) = false := decide_eq_false (by omega)
  have g4 : decide ((o.ac : Int) ≥ 4) = false := decide_eq_false (by omega)
  have g4' : decide ((4 : Int) ≤ (o.ac : Int)) = false := decide_eq_false (by omega)
  have e0 : ((o.k : Int) == 0) = false := by simp; omega
  have e6 : ((o.k : Int) == 6) = false := by simp; omega
  have e7 : ((o.k : Int) == 7) = false := by simp; omega
  have e8 : ((o.k : Int) == 8) = false := by simp; omega
  have g9 : decide ((o.k : Int) ≥ 9) = false := decide_eq_false (by omega)
  have g9' : decide ((9 : Int) ≤ (o.k : Int)) = false := decide_eq_false (by omega)
  have HEm : Hid (mDo M o room = (M, rzR 4)) := hid (by unfold mDo; rw [if_neg (by omega), if_neg (by omega), if_neg (by omega), if_neg (by omega), if_neg (by omega), if_neg (by omega), if_neg (by omega), if_pos hop])
  have Hop := hid hop
  clear hop
  clear h hb hids hob hmB
  go_enter Tryd.func23, Tryd.ntmps23
  go_upto_region 1 with fail
  obtain ⟨w1, hw1⟩ : ∃ w1, (w.alloc (.cells (opC o).toArray 31)).alloc (.cells (rzC (rzR 0)).toArray 36) = w1 := ⟨_, rfl⟩
  have HD : Hid (EM w σ N M [(q + 1, 36, rzC (rzR 0)), (q, 31, opC o)] w1) := by rw [← hw1]; exact HD0
  rw [show (w.alloc (.cells (opC o).toArray 31)).alloc (.cells #[.int .u8 0, .int .u64 0, .int .u64 0, .int .u64 0, .int .u64 0, .int .u64 0, .int .i64 0, .int .i64 0] 36) = w1 from hw1]
  clear hw1 HD0
  have c0 : w1.cell? ⟨q, 0, none⟩ = some (.int .u8 (o.ac : Int)) := (HD.out.bl (q, 31, opC o) (by simp)).1.cell 0
  have c1 : w1.cell? ⟨q, 1, none⟩ = some (.int .u8 (o.k : Int)) := (HD.out.bl (q, 31, opC o) (by simp)).1.cell 1
  have c2 : w1.cell? ⟨q, 2, none⟩ = some (.int .u64 (o.a : Int)) := (HD.out.bl (q, 31, opC o) (by simp)).1.cell 2
  have c3 : w1.cell? ⟨q, 3, none⟩ = some (.int .u64 (o.b : Int)) := (HD.out.bl (q, 31, opC o) (by simp)).1.cell 3
  have HOa : Hid (∀ wz, EM w σ N M [(q + 1, 36, rzC (rzR 0)), (q, 31, opC o)] wz → Calls Tryd.prog 42 #[.pointer (some ⟨mB, 0, none⟩), .int .u64 (o.a : Int)] wz fun e w' => e = .returned (.int .u64 ((mOp M o.a : Nat) : Int)) ∧ EM w σ N M [(q + 1, 36, rzC (rzR 0)), (q, 31, opC o)] w') := hid (fun wz hz => by
    have := hz.pure (f := 42) (args := fun x => #[.pointer (some ⟨x, 0, none⟩), .int .u64 (o.a : Int)]) (e0 := .returned (.int .u64 ((mOp M o.a : Nat) : Int))) (fun σ' N' hM => moperand_walk hM HBd.out (by omega) o.a Hob.out.a)
    rw [HmB.out] at this
    exact this)
  rw [Hop.out] at HOa
  go_wp2_with fail
  refine (HOa.out _ HD.out).mono ?_
  rintro e w2 ⟨rfl, hD2⟩
  have HD2 := hid hD2
  clear hD2 HD
  go_wp2_with fail
  refine (mrefuse_walk 4 _).mono ?_
  rintro e w3 ⟨rfl, hb3⟩
  have HD3 := hid (HD2.out.below hb3)
  clear HD2 hb3
  go_wp2_with (refine wpList_store_blk rfl 36 _ _ rfl (q + 1) rfl (rzC (rzR 4)) rfl (HD3.out.bl (q + 1, 36, rzC (rzR 0)) (by simp)).1 rfl I0.out (rz_one _) ?_; intro w9 HB9 HU9)
  have HM9 := (HD3.out.set (i := 0) rfl HB9.out HU9.out).out
  exact bodyPost_ret (results_blk Tryd.results23 rfl (show AggOf Tryd.prog 36 (rzC (rzR 4)).length from AggOf.struct Tryd.underlying36 info_rz) HB9.out) rfl
    (by unfold MsP; rw [HEm.out]; exact ⟨rfl, HM9⟩)
set_option maxRecDepth 1000000 in
set_option maxHeartbeats 8000000 in
theorem mst_hdl (h : MN w σ N M) (hb : MBd M n) (hn : n < 100000000000) (hids : MIds M) (o : OpP) (hob : OpB o) (room : Bool) (hac : o.ac < 4) (hk : 1 ≤ o.k ∧ o.k ≤ 5) (hop : mOp M o.a ≠ 0) (hlk : mLook M o.ac (mOp M o.a) = none) :
    Calls Tryd.prog 23 #[.pointer (some ⟨N.mB, 0, none⟩), .agg (opC o).toArray, .bool room] w fun e w' => MsP w σ N M o room e w' := by
  have HD0 := hid (EM.two h o)
  obtain ⟨q, hq⟩ : ∃ q, w.heap.size = q := ⟨_, rfl⟩
  rw [hq] at HD0
  have HBd := hid hb
  have Hids := hid hids
  have I0 : Hid ((Tryd.prog.info? 36).map (·.size) = some 8) := hid info_rz
  have Hob := hid hob
  obtain ⟨mB, hmB⟩ : ∃ b, N.mB = b := ⟨_, rfl⟩
  have HmB := hid hmB
  rw [hmB]
  have b0 : (o.ac : Int) < 256 := by have := hob.ac; omega
  have b2 : (o.a : Int) < 18446744073709551616 := by have := hob.a; omega
  have b3 : (o.b : Int) < 18446744073709551616 := by have := hob.b; omega
  have b4 : (o.c : Int) < 18446744073709551616 := by have := hob.c; omega
  have g7 : decide ((o.ac : Int) ≥ 7) = false := decide_eq_false (by omega)
  have g7' : decide ((7 : Int) ≤ (o.ac : Int)) = false := decide_eq_false (by omega)
  have g4 : decide ((o.ac : Int) ≥ 4) = false := decide_eq_false (by omega)
  have g4' : decide ((4 : Int) ≤ (o.ac : Int)) = false := decide_eq_false (by omega)
  have e0 : ((o.k : Int) == 0) = false := by simp; omega
  have e6 : ((o.k : Int) == 6) = false := by simp; omega
  have e7 : ((o.k : Int) == 7) = false := by simp; omega
  have e8 : ((o.k : Int) == 8) = false := by simp; omega
  have g9 : decide ((o.k : Int) ≥ 9) = false := decide_eq_false (by omega)
  have g9' : decide ((9 : Int) ≤ (o.k : Int)) = false := decide_eq_false (by omega)
  have HEm : Hid (mDo M o room = (M, rzR 3)) := hid (by unfold mDo; rw [if_neg (by omega), if_neg (by omega), if_neg (by omega), if_neg (by omega), if_neg (by omega), if_neg (by omega), if_neg (by omega), if_neg hop, hlk])
  obtain ⟨ov, hov⟩ : ∃ x, mOp M o.a = x := ⟨_, rfl⟩
  have dop : ((ov : Int) == 0) = false := by rw [← hov]; simp; omega
  have Hov := hid hov
  have Hlk := hid hlk
  clear hop hov hlk
  clear h hb hids hob hmB
  go_enter Tryd.func23, Tryd.ntmps23
  go_upto_region 1 with fail
  obtain ⟨w1, hw1⟩ : ∃ w1, (w.alloc (.cells (opC o).toArray 31)).alloc (.cells (rzC (rzR 0)).toArray 36) = w1 := ⟨_, rfl⟩
  have HD : Hid (EM w σ N M [(q + 1, 36, rzC (rzR 0)), (q, 31, opC o)] w1) := by rw [← hw1]; exact HD0
  rw [show (w.alloc (.cells (opC o).toArray 31)).alloc (.cells #[.int .u8 0, .int .u64 0, .int .u64 0, .int .u64 0, .int .u64 0, .int .u64 0, .int .i64 0, .int .i64 0] 36) = w1 from hw1]
  clear hw1 HD0
  have c0 : w1.cell? ⟨q, 0, none⟩ = some (.int .u8 (o.ac : Int)) := (HD.out.bl (q, 31, opC o) (by simp)).1.cell 0
  have c1 : w1.cell? ⟨q, 1, none⟩ = some (.int .u8 (o.k : Int)) := (HD.out.bl (q, 31, opC o) (by simp)).1.cell 1
  have c2 : w1.cell? ⟨q, 2, none⟩ = some (.int .u64 (o.a : Int)) := (HD.out.bl (q, 31, opC o) (by simp)).1.cell 2
  have c3 : w1.cell? ⟨q, 3, none⟩ = some (.int .u64 (o.b : Int)) := (HD.out.bl (q, 31, opC o) (by simp)).1.cell 3
  have HOa : Hid (∀ wz, EM w σ N M [(q + 1, 36, rzC (rzR 0)), (q, 31, opC o)] wz → Calls Tryd.prog 42 #[.pointer (some ⟨mB, 0, none⟩), .int .u64 (o.a : Int)] wz fun e w' => e = .returned (.int .u64 ((mOp M o.a : Nat) : Int)) ∧ EM w σ N M [(q + 1, 36, rzC (rzR 0)), (q, 31, opC o)] w') := hid (fun wz hz => by
    have := hz.pure (f := 42) (args := fun x => #[.pointer (some ⟨x, 0, none⟩), .int .u64 (o.a : Int)]) (e0 := .returned (.int .u64 ((mOp M o.a : Nat) : Int))) (fun σ' N' hM => moperand_walk hM HBd.out (by omega) o.a Hob.out.a)
    rw [HmB.out] at this
    exact this)
  have HLk : Hid (∀ wz v, EM w σ N M [(q + 1, 36, rzC (rzR 0)), (q, 31, opC o)] wz → Calls Tryd.prog 43 #[.pointer (some ⟨mB, 0, none⟩), .int .i64 (o.ac : Int), .int .u64 ((v : Nat) : Int)] wz fun e w' => e = .returned (lkM (mLook M o.ac v)) ∧ w' = wz) := hid (fun wz v hz => by
    obtain ⟨σ', N', h1, h2, h3, h4⟩ := hz.ex
    have := mlookup_walk h1 HBd.out (by omega) hac v
    rw [h2, HmB.out] at this
    exact this)
  rw [Hov.out] at HOa
  have HL1 := hid (fun wz hz => HLk.out wz ov hz)
  rw [Hov.out] at Hlk
  rw [Hlk.out] at HL1
  go_wp2_with fail
  refine (HOa.out _ HD.out).mono ?_
  rintro e w2 ⟨rfl, hD2⟩
  have HD2 := hid hD2
  have c2' : w2.cell? ⟨q, 2, none⟩ = some (.int .u64 (o.a : Int)) := (hD2.bl (q, 31, opC o) (by simp)).1.cell 2
  clear hD2 HD
  go_wp2_with fail
  refine (HOa.out _ HD2.out).mono ?_
  rintro e w4 ⟨rfl, hD4⟩
  have HD4 := hid hD4
  clear hD4 HD2
  go_wp2_with fail
  refine (HL1.out _ HD4.out).mono ?_
  rintro e w5 ⟨rfl, rfl⟩
  simp only [lkM, Option.getD_none, Option.isSome_none]
  go_wp2_with fail
  refine (mrefuse_walk 3 _).mono ?_
  rintro e w3 ⟨rfl, hb3⟩
  have HD3 := hid (HD4.out.below hb3)
  clear HD4 hb3
  go_wp2_with (refine wpList_store_blk rfl 36 _ _ rfl (q + 1) rfl (rzC (rzR 3)) rfl (HD3.out.bl (q + 1, 36, rzC (rzR 0)) (by simp)).1 rfl I0.out (rz_one _) ?_; intro w9 HB9 HU9)
  have HM9 := (HD3.out.set (i := 0) rfl HB9.out HU9.out).out
  exact bodyPost_ret (results_blk Tryd.results23 rfl (show AggOf Tryd.prog 36 (rzC (rzR 3)).length from AggOf.struct Tryd.underlying36 info_rz) HB9.out) rfl
    (by unfold MsP; rw [HEm.out]; exact ⟨rfl, HM9⟩)
end
end Go.Proofs.Qxb6500889aDoor
