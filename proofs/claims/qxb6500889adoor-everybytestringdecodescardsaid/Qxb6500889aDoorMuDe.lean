/- do (written by tools/mk_do.py). -/
import Derived.Test.Qxb6500889aDoorMuD3
namespace Go.Proofs.Qxb6500889aDoor
open Go.RowKit
set_option linter.unusedSimpArgs false
set_option linter.unusedVariables false
section
variable {w w' w'' : World} {ρ ρ' ρ'' : Rl} {L L' : HL} {T : XL} {H H' : HS} {X X' : XS} {q : Nat} {o : OpP} {z : Rz} {wz : World}
set_option maxRecDepth 1000000 in
set_option maxHeartbeats 4000000 in
theorem do_2 (h : MM w ρ L T H X) (hi : HI H X) {n : Nat} (hn : XN X n) (hn2 : n < 100000000000) (o : OpP) (hob : OpB o) (hac : o.ac < 4) (hk : o.k = 2) :
    Calls Tryd.prog 36 #[.pointer (some ⟨T.xB, 0, none⟩), .agg (opC o).toArray] w fun e w' => DoP w ρ L T H X o e w' := by
  have HD0 := hid (DB.start h o)
  obtain ⟨q, hq⟩ : ∃ q, w.heap.size = q := ⟨_, rfl⟩
  rw [hq] at HD0
  have Hi := hid hi
  have Hn := hid hn
  have HX : Hid (XB X) := hid (hn.xb (by omega))
  have Hob := hid hob
  have I0 : Hid ((Tryd.prog.info? 36).map (·.size) = some 8) := hid info_rz
  obtain ⟨xB, hxB⟩ : ∃ b, T.xB = b := ⟨_, rfl⟩
  have HxB := hid hxB
  rw [hxB]
  have b0 : (o.ac : Int) < 256 := by have := hob.ac; omega
  have b2 : (o.a : Int) < 18446744073709551616 := by have := hob.a; omega
  have b3 : (o.b : Int) < 18446744073709551616 := by have := hob.b; omega
  have b4 : (o.c : Int) < 18446744073709551616 := by have := hob.c; omega
  have d0 : decide ((o.ac : Int) ≥ 4) = false := decide_eq_false (by omega)
  have d1 : decide ((4 : Int) ≤ (o.ac : Int)) = false := decide_eq_false (by omega)
  have hk9 := hid hk
  have ek : (o.k : Int) = 2 := by omega
  have e0 : ((o.k : Int) == 0) = false := by rw [ek]; rfl
  have e1 : ((o.k : Int) == 1) = false := by rw [ek]; rfl
  have e2 : ((o.k : Int) == 2) = true := by rw [ek]; rfl
  clear ek hk
  clear h hi hn hob hxB
  go_enter Tryd.func36, Tryd.ntmps36
  go_upto_region 1 with fail
  obtain ⟨w1, hw1⟩ : ∃ w1, (w.alloc (.cells (opC o).toArray 31)).alloc (.cells (rzC (rzR 0)).toArray 36) = w1 := ⟨_, rfl⟩
  have HD : Hid (DB w ρ L T q o H X (rzR 0) w1) := by rw [← hw1]; exact HD0
  rw [show (w.alloc (.cells (opC o).toArray 31)).alloc (.cells #[.int .u8 0, .int .u64 0, .int .u64 0, .int .u64 0, .int .u64 0, .int .u64 0, .int .i64 0, .int .i64 0] 36) = w1 from hw1]
  clear hw1 HD0
  have c0 : w1.cell? ⟨q, 0, none⟩ = some (.int .u8 (o.ac : Int)) := HD.out.bq.cell 0
  have c1 : w1.cell? ⟨q, 1, none⟩ = some (.int .u8 (o.k : Int)) := HD.out.bq.cell 1
  have HOa : Hid (∀ wz : World, DB w ρ L T q o H X (rzR 0) wz → Calls Tryd.prog 55 #[.pointer (some ⟨xB, 0, none⟩), .int .u64 (o.a : Int)] wz fun e w' => e = .returned (.int .u64 ((opX X o.a : Nat) : Int)) ∧ DB w ρ L T q o H X (rzR 0) w') := hid (fun wz hz => by
    have := hz.pure (f := 55) (args := fun x => #[.pointer (some ⟨x, 0, none⟩), .int .u64 (o.a : Int)]) (e0 := .returned (.int .u64 ((opX X o.a : Nat) : Int))) (fun ρ' L' T' hM => operand_walk hM HX.out o.a Hob.out.a)
    rw [HxB.out] at this
    exact this)
  have HOc : Hid (∀ wz : World, DB w ρ L T q o H X (rzR 0) wz → Calls Tryd.prog 55 #[.pointer (some ⟨xB, 0, none⟩), .int .u64 (o.c : Int)] wz fun e w' => e = .returned (.int .u64 ((opX X o.c : Nat) : Int)) ∧ DB w ρ L T q o H X (rzR 0) w') := hid (fun wz hz => by
    have := hz.pure (f := 55) (args := fun x => #[.pointer (some ⟨x, 0, none⟩), .int .u64 (o.c : Int)]) (e0 := .returned (.int .u64 ((opX X o.c : Nat) : Int))) (fun ρ' L' T' hM => operand_walk hM HX.out o.c Hob.out.c)
    rw [HxB.out] at this
    exact this)
  have HNb : Hid (∀ wz : World, Calls Tryd.prog 52 #[.int .u64 (o.b : Int)] wz fun e w' => e = .returned (.int .i64 (numX o.b)) ∧ w' = wz) := hid (fun wz => number_walk o.b wz)
  have HC : Hid (∀ wz : World, DB w ρ L T q o H X (rzR 0) wz → Calls Tryd.prog 56 #[.pointer (some ⟨xB, 0, none⟩), .int .i64 (o.ac : Int), .int .u64 ((opX X o.a : Nat) : Int), .int .i64 (numX o.b), .int .u64 ((opX X o.c : Nat) : Int)] wz fun e w' => ∃ H' X', (e = .returned (.int .u8 ((wrF H X o.ac (opX X o.a) (numX o.b) (opX X o.c)).2 : Int)) ∧ H' = (wrF H X o.ac (opX X o.a) (numX o.b) (opX X o.c)).1 ∧ X' = X) ∧ DB w ρ L T q o H' X' (rzR 0) w') := hid (fun wz hz => by
    have := hz.run (f := 56) (args := fun x => #[.pointer (some ⟨x, 0, none⟩), .int .i64 (o.ac : Int), .int .u64 ((opX X o.a : Nat) : Int), .int .i64 (numX o.b), .int .u64 ((opX X o.c : Nat) : Int)]) (R := fun e H' X' => e = .returned (.int .u8 ((wrF H X o.ac (opX X o.a) (numX o.b) (opX X o.c)).2 : Int)) ∧ H' = (wrF H X o.ac (opX X o.a) (numX o.b) (opX X o.c)).1 ∧ X' = X) (fun ρ' L' T' hM => (writeField_walk hM hac HX.out Hi.out.live (opX X o.a) (Hn.out.op Hob.out.a) (numX o.b) (opX X o.c) (Hn.out.op Hob.out.c)).mono (fun e w' ⟨k1, k2⟩ => ⟨_, _, ⟨k1, rfl, rfl⟩, k2⟩))
    rw [HxB.out] at this
    exact this)
  have HDs : Hid (DoS H X o (wrF H X o.ac (opX X o.a) (numX o.b) (opX X o.c)).1 X (rzR (wrF H X o.ac (opX X o.a) (numX o.b) (opX X o.c)).2)) := hid (.wf hac hk9.out)
  generalize numX o.b = nb at HNb HC HDs
  generalize opX X o.a = ov at HOa HC HDs
  generalize opX X o.c = oc at HOc HC HDs
  go_upto_region 12 with fail
  refine wp_region_heavy (fun wz => Blk wz q 31 (opC o)) 15 [0, 1, 2, 3, 4, 6, 7, 9, 10, 11] [5, 8, 12, 13, 14] rfl (by kernel_rfl) (by kernel_rfl) (fun d _ _ _ _ h => by cases d <;> exact h) (HD.out.below (Drew.below ⟨1, rfl⟩ _)).bq ?_
  apply Exists.intro
  refine ⟨?_, ?_⟩
  · intro W hW
    have dm : True := trivial
    have d2 : ∀ x, (W x).cell? ⟨q, 2, none⟩ = some (.int .u64 (o.a : Int)) := fun x => (hW x).cell 2
    have d3 : ∀ x, (W x).cell? ⟨q, 3, none⟩ = some (.int .u64 (o.b : Int)) := fun x => (hW x).cell 3
    have d4 : ∀ x, (W x).cell? ⟨q, 4, none⟩ = some (.int .u64 (o.c : Int)) := fun x => (hW x).cell 4
    clear hW
    simp only [List.take, opsAt, List.drop, List.cons_append, List.nil_append]
    repeat (go_big_quiet_step (fail))
    exact rfl
  simp only [List.take, List.drop, opsAt, List.cons_append, List.nil_append, wpHv]
  have HD1 : Hid (DB w ρ L T q o H X (rzR 0) w1.drew) := hid (HD.out.below (Drew.below ⟨1, rfl⟩ _))
  generalize w1.drew = w1d at HD1 ⊢
  clear HD c0 c1
  go_wp2_with fail
  refine (HOa.out _ HD1.out).mono ?_
  rintro e wy ⟨rfl, hDy⟩
  have HD2 := hid hDy
  clear hDy HD1
  go_wp2_with fail
  refine ⟨HD2.out.bq, ?_⟩
  go_wp2_with fail
  refine (HNb.out _).mono ?_
  rintro e wy ⟨rfl, rfl⟩
  go_wp2_with fail
  refine ⟨HD2.out.bq, ?_⟩
  go_wp2_with fail
  refine (HOc.out _ HD2.out).mono ?_
  rintro e wy ⟨rfl, hDy⟩
  have HD3 := hid hDy
  clear hDy HD2
  go_wp2_with fail
  refine ⟨HD3.out.bq, ?_⟩
  go_wp2_with fail
  refine (HC.out _ HD3.out).mono ?_
  rintro e w4 ⟨H4, X4, ⟨rfl, rfl, rfl⟩, hD4⟩
  have HD4 := hid hD4
  clear hD4 HC HD3 HNb HOa HOc
  generalize (wrF H X4 o.ac ov nb oc).2 = rc at HDs ⊢
  go_wp2_with fail
  refine ⟨HD4.out.bq, ?_⟩
  go_wp2_with fail
  refine (refuse_walk rc _).mono ?_
  rintro e w5 ⟨rfl, hb5⟩
  have HD5 := hid (HD4.out.below hb5)
  clear HD4 hb5
  go_wp2_with fail
  refine ⟨HD5.out.bq, ?_⟩
  simp only [QN]
  go_wp2_with (refine wpList_store_blk rfl 36 _ _ rfl (q + 1) rfl (rzC (rzR rc)) rfl HD5.out.bp rfl I0.out (rz_one _) ?_; intro w9 HB9 HU9)
  exact bodyPost_ret (results_blk Tryd.results36 rfl (show AggOf Tryd.prog 36 (rzC (rzR rc)).length from AggOf.struct Tryd.underlying36 info_rz) HB9.out) rfl
    ⟨_, _, _, rfl, HDs.out, (HD5.out.store HB9.out HU9.out).out⟩
set_option maxRecDepth 1000000 in
set_option maxHeartbeats 4000000 in
theorem do_4 (h : MM w ρ L T H X) (hi : HI H X) {n : Nat} (hn : XN X n) (hn2 : n < 100000000000) (o : OpP) (hob : OpB o) (hac : o.ac < 4) (hk : o.k = 4) :
    Calls Tryd.prog 36 #[.pointer (some ⟨T.xB, 0, none⟩), .agg (opC o).toArray] w fun e w' => DoP w ρ L T H X o e w' := by
  have HD0 := hid (DB.start h o)
  obtain ⟨q, hq⟩ : ∃ q, w.heap.size = q := ⟨_, rfl⟩
  rw [hq] at HD0
  have Hi := hid hi
  have Hn := hid hn
  have HX : Hid (XB X) := hid (hn.xb (by omega))
  have Hob := hid hob
  have I0 : Hid ((Tryd.prog.info? 36).map (·.size) = some 8) := hid info_rz
  obtain ⟨xB, hxB⟩ : ∃ b, T.xB = b := ⟨_, rfl⟩
  have HxB := hid hxB
  rw [hxB]
  have b0 : (o.ac : Int) < 256 := by have := hob.ac; omega
  have b2 : (o.a : Int) < 18446744073709551616 := by have := hob.a; omega
  have b3 : (o.b : Int) < 18446744073709551616 := by have := hob.b; omega
  have b4 : (o.c : Int) < 18446744073709551616 := by have := hob.c; omega
  have d0 : decide ((o.ac : Int) ≥ 4) = false := decide_eq_false (by omega)
  have d1 : decide ((4 : Int) ≤ (o.ac : Int)) = false := decide_eq_false (by omega)
  have hk9 := hid hk
  have ek : (o.k : Int) = 4 := by omega
  have e0 : ((o.k : Int) == 0) = false := by rw [ek]; rfl
  have e1 : ((o.k : Int) == 1) = false := by rw [ek]; rfl
  have e2 : ((o.k : Int) == 2) = false := by rw [ek]; rfl
  have e3 : ((o.k : Int) == 3) = false := by rw [ek]; rfl
  have e4 : ((o.k : Int) == 4) = true := by rw [ek]; rfl
  clear ek hk
  clear h hi hn hob hxB
  go_enter Tryd.func36, Tryd.ntmps36
  go_upto_region 1 with fail
  obtain ⟨w1, hw1⟩ : ∃ w1, (w.alloc (.cells (opC o).toArray 31)).alloc (.cells (rzC (rzR 0)).toArray 36) = w1 := ⟨_, rfl⟩
  have HD : Hid (DB w ρ L T q o H X (rzR 0) w1) := by rw [← hw1]; exact HD0
  rw [show (w.alloc (.cells (opC o).toArray 31)).alloc (.cells #[.int .u8 0, .int .u64 0, .int .u64 0, .int .u64 0, .int .u64 0, .int .u64 0, .int .i64 0, .int .i64 0] 36) = w1 from hw1]
  clear hw1 HD0
  have c0 : w1.cell? ⟨q, 0, none⟩ = some (.int .u8 (o.ac : Int)) := HD.out.bq.cell 0
  have c1 : w1.cell? ⟨q, 1, none⟩ = some (.int .u8 (o.k : Int)) := HD.out.bq.cell 1
  have HOa : Hid (∀ wz : World, DB w ρ L T q o H X (rzR 0) wz → Calls Tryd.prog 55 #[.pointer (some ⟨xB, 0, none⟩), .int .u64 (o.a : Int)] wz fun e w' => e = .returned (.int .u64 ((opX X o.a : Nat) : Int)) ∧ DB w ρ L T q o H X (rzR 0) w') := hid (fun wz hz => by
    have := hz.pure (f := 55) (args := fun x => #[.pointer (some ⟨x, 0, none⟩), .int .u64 (o.a : Int)]) (e0 := .returned (.int .u64 ((opX X o.a : Nat) : Int))) (fun ρ' L' T' hM => operand_walk hM HX.out o.a Hob.out.a)
    rw [HxB.out] at this
    exact this)
  have HNb : Hid (∀ wz : World, Calls Tryd.prog 52 #[.int .u64 (o.b : Int)] wz fun e w' => e = .returned (.int .i64 (numX o.b)) ∧ w' = wz) := hid (fun wz => number_walk o.b wz)
  have HC : Hid (∀ wz : World, DB w ρ L T q o H X (rzR 0) wz → Calls Tryd.prog 58 #[.pointer (some ⟨xB, 0, none⟩), .int .i64 (o.ac : Int), .int .u64 ((opX X o.a : Nat) : Int), .int .i64 (numX o.b), .int .u64 (o.c : Int)] wz fun e w' => ∃ H' X', (e = .returned (.int .u8 ((wrD H X o.ac (opX X o.a) (numX o.b) o.c).2 : Int)) ∧ H' = (wrD H X o.ac (opX X o.a) (numX o.b) o.c).1 ∧ X' = X) ∧ DB w ρ L T q o H' X' (rzR 0) w') := hid (fun wz hz => by
    have := hz.run (f := 58) (args := fun x => #[.pointer (some ⟨x, 0, none⟩), .int .i64 (o.ac : Int), .int .u64 ((opX X o.a : Nat) : Int), .int .i64 (numX o.b), .int .u64 (o.c : Int)]) (R := fun e H' X' => e = .returned (.int .u8 ((wrD H X o.ac (opX X o.a) (numX o.b) o.c).2 : Int)) ∧ H' = (wrD H X o.ac (opX X o.a) (numX o.b) o.c).1 ∧ X' = X) (fun ρ' L' T' hM => (writeData_walk hM hac HX.out Hi.out.live (opX X o.a) (Hn.out.op Hob.out.a) (numX o.b) o.c).mono (fun e w' ⟨k1, k2⟩ => ⟨_, _, ⟨k1, rfl, rfl⟩, k2⟩))
    rw [HxB.out] at this
    exact this)
  have HDs : Hid (DoS H X o (wrD H X o.ac (opX X o.a) (numX o.b) o.c).1 X (rzR (wrD H X o.ac (opX X o.a) (numX o.b) o.c).2)) := hid (.wd hac hk9.out)
  generalize numX o.b = nb at HNb HC HDs
  generalize opX X o.a = ov at HOa HC HDs
  go_upto_region 16 with fail
  refine wp_region_heavy (fun wz => Blk wz q 31 (opC o)) 13 [0, 1, 2, 3, 4, 6, 7, 9, 10] [5, 8, 11, 12] rfl (by kernel_rfl) (by kernel_rfl) (fun d _ _ _ _ h => by cases d <;> exact h) (HD.out.below (Drew.below ⟨1, rfl⟩ _)).bq ?_
  apply Exists.intro
  refine ⟨?_, ?_⟩
  · intro W hW
    have dm : True := trivial
    have d2 : ∀ x, (W x).cell? ⟨q, 2, none⟩ = some (.int .u64 (o.a : Int)) := fun x => (hW x).cell 2
    have d3 : ∀ x, (W x).cell? ⟨q, 3, none⟩ = some (.int .u64 (o.b : Int)) := fun x => (hW x).cell 3
    have d4 : ∀ x, (W x).cell? ⟨q, 4, none⟩ = some (.int .u64 (o.c : Int)) := fun x => (hW x).cell 4
    clear hW
    simp only [List.take, opsAt, List.drop, List.cons_append, List.nil_append]
    repeat (go_big_quiet_step (fail))
    exact rfl
  simp only [List.take, List.drop, opsAt, List.cons_append, List.nil_append, wpHv]
  have HD1 : Hid (DB w ρ L T q o H X (rzR 0) w1.drew) := hid (HD.out.below (Drew.below ⟨1, rfl⟩ _))
  generalize w1.drew = w1d at HD1 ⊢
  clear HD c0 c1
  go_wp2_with fail
  refine (HOa.out _ HD1.out).mono ?_
  rintro e wy ⟨rfl, hDy⟩
  have HD2 := hid hDy
  clear hDy HD1
  go_wp2_with fail
  refine ⟨HD2.out.bq, ?_⟩
  go_wp2_with fail
  refine (HNb.out _).mono ?_
  rintro e wy ⟨rfl, rfl⟩
  go_wp2_with fail
  refine ⟨HD2.out.bq, ?_⟩
  go_wp2_with fail
  refine (HC.out _ HD2.out).mono ?_
  rintro e w4 ⟨H4, X4, ⟨rfl, rfl, rfl⟩, hD4⟩
  have HD4 := hid hD4
  clear hD4 HC HD2 HNb HOa
  generalize (wrD H X4 o.ac ov nb o.c).2 = rc at HDs ⊢
  go_wp2_with fail
  refine ⟨HD4.out.bq, ?_⟩
  go_wp2_with fail
  refine (refuse_walk rc _).mono ?_
  rintro e w5 ⟨rfl, hb5⟩
  have HD5 := hid (HD4.out.below hb5)
  clear HD4 hb5
  go_wp2_with fail
  refine ⟨HD5.out.bq, ?_⟩
  simp only [QN]
  go_wp2_with (refine wpList_store_blk rfl 36 _ _ rfl (q + 1) rfl (rzC (rzR rc)) rfl HD5.out.bp rfl I0.out (rz_one _) ?_; intro w9 HB9 HU9)
  exact bodyPost_ret (results_blk Tryd.results36 rfl (show AggOf Tryd.prog 36 (rzC (rzR rc)).length from AggOf.struct Tryd.underlying36 info_rz) HB9.out) rfl
    ⟨_, _, _, rfl, HDs.out, (HD5.out.store HB9.out HU9.out).out⟩
end
end Go.Proofs.Qxb6500889aDoor
