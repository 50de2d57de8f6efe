/- do (written by tools/mk_do.py). -/
import Derived.Test.Qxb6500889aDoorMuD3
namespace Go.Proofs.Qxb6500889aDoor
open Go.RowKit
set_option linter.unusedSimpArgs false
set_option linter.unusedVariables false
section
variable {w w' w'' : World} {ρ ρ' ρ'' : Rl} {L L' : HL} {T : XL} {H H' : HS} {X X' : XS} {q : Nat} {o : OpP} {z : Rz} {wz : World}
set_option maxRecDepth 1000000 in
set_option maxHeartbeats 4000000 in
theorem do_1 (h : MM w ρ L T H X) (hi : HI H X) {n : Nat} (hn : XN X n) (hn2 : n < 100000000000) (o : OpP) (hob : OpB o) (hac : o.ac < 4) (hk : o.k = 1) :
    Calls Tryd.prog 36 #[.pointer (some ⟨T.xB, 0, none⟩), .agg (opC o).toArray] w fun e w' => DoP w ρ L T H X o e w' := by
  have HD0 := hid (DB.start h o)
  obtain ⟨q, hq⟩ : ∃ q, w.heap.size = q := ⟨_, rfl⟩
  rw [hq] at HD0
  have Hi := hid hi
  have Hn := hid hn
  have HX : Hid (XB X) := hid (hn.xb (by omega))
  have Hob := hid hob
  have I0 : Hid ((Tryd.prog.info? 36).map (·.size) = some 8) := hid info_rz
  obtain ⟨xB, hxB⟩ : ∃ b, T.xB = b := ⟨_, rfl⟩
  have HxB := hid hxB
  rw [hxB]
  have b0 : (o.ac : Int) < 256 := by have := hob.ac; omega
  have b2 : (o.a : Int) < 18446744073709551616 := by have := hob.a; omega
  have b3 : (o.b : Int) < 18446744073709551616 := by have := hob.b; omega
  have b4 : (o.c : Int) < 18446744073709551616 := by have := hob.c; omega
  have d0 : decide ((o.ac : Int) ≥ 4) = false := decide_eq_false (by omega)
  have d1 : decide ((4 : Int) ≤ (o.ac : Int)) = false := decide_eq_false (by omega)
  have hk9 := hid hk
  have ek : (o.k : Int) = 1 := by omega
  have e0 : ((o.k : Int) == 0) = false := by rw [ek]; rfl
  have e1 : ((o.k : Int) == 1) = true := by rw [ek]; rfl
  clear ek hk
  clear h hi hn hob hxB
  go_enter Tryd.func36, Tryd.ntmps36
  go_upto_region 1 with fail
  obtain ⟨w1, hw1⟩ : ∃ w1, (w.alloc (.cells (opC o).toArray 31)).alloc (.cells (rzC (rzR 0)).toArray 36) = w1 := ⟨_, rfl⟩
  have HD : Hid (DB w ρ L T q o H X (rzR 0) w1) := by rw [← hw1]; exact HD0
  rw [show (w.alloc (.cells (opC o).toArray 31)).alloc (.cells #[.int .u8 0, .int .u64 0, .int .u64 0, .int .u64 0, .int .u64 0, .int .u64 0, .int .i64 0, .int .i64 0] 36) = w1 from hw1]
  clear hw1 HD0
  have c0 : w1.cell? ⟨q, 0, none⟩ = some (.int .u8 (o.ac : Int)) := HD.out.bq.cell 0
  have c1 : w1.cell? ⟨q, 1, none⟩ = some (.int .u8 (o.k : Int)) := HD.out.bq.cell 1
  have HOa : Hid (∀ wz : World, DB w ρ L T q o H X (rzR 0) wz → Calls Tryd.prog 55 #[.pointer (some ⟨xB, 0, none⟩), .int .u64 (o.a : Int)] wz fun e w' => e = .returned (.int .u64 ((opX X o.a : Nat) : Int)) ∧ DB w ρ L T q o H X (rzR 0) w') := hid (fun wz hz => by
    have := hz.pure (f := 55) (args := fun x => #[.pointer (some ⟨x, 0, none⟩), .int .u64 (o.a : Int)]) (e0 := .returned (.int .u64 ((opX X o.a : Nat) : Int))) (fun ρ' L' T' hM => operand_walk hM HX.out o.a Hob.out.a)
    rw [HxB.out] at this
    exact this)
  have HNb : Hid (∀ wz : World, Calls Tryd.prog 52 #[.int .u64 (o.b : Int)] wz fun e w' => e = .returned (.int .i64 (numX o.b)) ∧ w' = wz) := hid (fun wz => number_walk o.b wz)
  have HC : Hid (∀ wz : World, DB w ρ L T q o H X (rzR 0) wz → Calls Tryd.prog 54 #[.pointer (some ⟨xB, 0, none⟩), .int .i64 (o.ac : Int), .int .u64 ((opX X o.a : Nat) : Int), .int .i64 (numX o.b)] wz fun e w' => ∃ H' X', (e = .returned (.tuple #[.int .u64 (((rdF H X o.ac (opX X o.a) (numX o.b)).2.1 : Nat) : Int), .int .u8 (((rdF H X o.ac (opX X o.a) (numX o.b)).2.2 : Nat) : Int)]) ∧ H' = H ∧ X' = (rdF H X o.ac (opX X o.a) (numX o.b)).1) ∧ DB w ρ L T q o H' X' (rzR 0) w') := hid (fun wz hz => by
    have := hz.run (f := 54) (args := fun x => #[.pointer (some ⟨x, 0, none⟩), .int .i64 (o.ac : Int), .int .u64 ((opX X o.a : Nat) : Int), .int .i64 (numX o.b)]) (R := fun e H' X' => e = .returned (.tuple #[.int .u64 (((rdF H X o.ac (opX X o.a) (numX o.b)).2.1 : Nat) : Int), .int .u8 (((rdF H X o.ac (opX X o.a) (numX o.b)).2.2 : Nat) : Int)]) ∧ H' = H ∧ X' = (rdF H X o.ac (opX X o.a) (numX o.b)).1) (fun ρ' L' T' hM => (readField_walk hM hac HX.out Hi.out.live (opX X o.a) (Hn.out.op Hob.out.a) (numX o.b)).mono (fun e w' ⟨k1, k2⟩ => ⟨_, _, ⟨k1, rfl, rfl⟩, k2⟩))
    rw [HxB.out] at this
    exact this)
  have HDs : Hid (DoS H X o H (rdF H X o.ac (opX X o.a) (numX o.b)).1 (rzA (rdF H X o.ac (opX X o.a) (numX o.b)).2.1 (rdF H X o.ac (opX X o.a) (numX o.b)).2.2)) := hid (.rf hac hk9.out)
  generalize numX o.b = nb at HNb HC HDs
  generalize opX X o.a = ov at HOa HC HDs
  go_upto_region 9 with fail
  refine wp_region_hlh (fun wz => Blk wz q 31 (opC o)) 15 [0, 1, 2, 3, 4, 6, 7] [5, 8, 9] [10, 11, 12, 13, 14] [] rfl (by kernel_rfl) (by kernel_rfl) (fun d _ _ _ _ h => by cases d <;> exact h) (HD.out.below (Drew.below ⟨1, rfl⟩ _)).bq ?_
  apply Exists.intro
  refine ⟨?_, ?_⟩
  · intro W hW
    have dm : True := trivial
    have d2 : ∀ x, (W x).cell? ⟨q, 2, none⟩ = some (.int .u64 (o.a : Int)) := fun x => (hW x).cell 2
    have d3 : ∀ x, (W x).cell? ⟨q, 3, none⟩ = some (.int .u64 (o.b : Int)) := fun x => (hW x).cell 3
    clear hW
    simp only [List.take, opsAt, List.drop, List.cons_append, List.nil_append]
    repeat (go_big_quiet_step (fail))
    exact rfl
  simp only [List.take, List.drop, opsAt, List.cons_append, List.nil_append, wpHvK]
  have HD1 : Hid (DB w ρ L T q o H X (rzR 0) w1.drew) := hid (HD.out.below (Drew.below ⟨1, rfl⟩ _))
  generalize w1.drew = w1d at HD1 ⊢
  clear HD c0 c1
  go_wp2_with fail
  refine (HOa.out _ HD1.out).mono ?_
  rintro e wy ⟨rfl, hDy⟩
  have HD2 := hid hDy
  clear hDy HD1
  go_wp2_with fail
  refine ⟨HD2.out.bq, ?_⟩
  go_wp2_with fail
  refine (HNb.out _).mono ?_
  rintro e wy ⟨rfl, rfl⟩
  go_wp2_with fail
  refine ⟨HD2.out.bq, ?_⟩
  go_wp2_with fail
  refine (HC.out _ HD2.out).mono ?_
  rintro e w3 ⟨H3, X3, ⟨rfl, rfl, rfl⟩, hD3⟩
  have HD3 := hid hD3
  clear hD3 HC HD2 HNb HOa
  generalize (rdF H3 X o.ac ov nb).2.1 = rv at HDs ⊢
  generalize (rdF H3 X o.ac ov nb).2.2 = rc at HDs ⊢
  go_wp2_with fail
  refine ⟨HD3.out.bq, ?_⟩
  apply Exists.intro
  refine ⟨?_, ?_⟩
  · intro W hW
    clear hW
    repeat (go_big_quiet_step (fail))
    exact rfl
  simp only [wpHv]
  simp only [QN]
  as_aux_lemma =>
  go_wp2_with fail
  refine (answer_walk rv rc _).mono ?_
  rintro e w4 ⟨rfl, hb4⟩
  have HD4 := hid (HD3.out.below hb4)
  clear HD3 hb4
  go_wp2_with (refine wpList_store_blk rfl 36 _ _ rfl (q + 1) rfl (rzC (rzA rv rc)) rfl HD4.out.bp rfl I0.out (rz_one _) ?_; intro w9 HB9 HU9)
  exact bodyPost_ret (results_blk Tryd.results36 rfl (show AggOf Tryd.prog 36 (rzC (rzA rv rc)).length from AggOf.struct Tryd.underlying36 info_rz) HB9.out) rfl
    ⟨_, _, _, rfl, HDs.out, (HD4.out.store HB9.out HU9.out).out⟩
set_option maxRecDepth 1000000 in
set_option maxHeartbeats 4000000 in
theorem do_3 (h : MM w ρ L T H X) (hi : HI H X) {n : Nat} (hn : XN X n) (hn2 : n < 100000000000) (o : OpP) (hob : OpB o) (hac : o.ac < 4) (hk : o.k = 3) :
    Calls Tryd.prog 36 #[.pointer (some ⟨T.xB, 0, none⟩), .agg (opC o).toArray] w fun e w' => DoP w ρ L T H X o e w' := by
  have HD0 := hid (DB.start h o)
  obtain ⟨q, hq⟩ : ∃ q, w.heap.size = q := ⟨_, rfl⟩
  rw [hq] at HD0
  have Hi := hid hi
  have Hn := hid hn
  have HX : Hid (XB X) := hid (hn.xb (by omega))
  have Hob := hid hob
  have I0 : Hid ((Tryd.prog.info? 36).map (·.size) = some 8) := hid info_rz
  obtain ⟨xB, hxB⟩ : ∃ b, T.xB = b := ⟨_, rfl⟩
  have HxB := hid hxB
  rw [hxB]
  have b0 : (o.ac : Int) < 256 := by have := hob.ac; omega
  have b2 : (o.a : Int) < 18446744073709551616 := by have := hob.a; omega
  have b3 : (o.b : Int) < 18446744073709551616 := by have := hob.b; omega
  have b4 : (o.c : Int) < 18446744073709551616 := by have := hob.c; omega
  have d0 : decide ((o.ac : Int) ≥ 4) = false := decide_eq_false (by omega)
  have d1 : decide ((4 : Int) ≤ (o.ac : Int)) = false := decide_eq_false (by omega)
  have hk9 := hid hk
  have ek : (o.k : Int) = 3 := by omega
  have e0 : ((o.k : Int) == 0) = false := by rw [ek]; rfl
  have e1 : ((o.k : Int) == 1) = false := by rw [ek]; rfl
  have e2 : ((o.k : Int) == 2) = false := by rw [ek]; rfl
  have e3 : ((o.k : Int) == 3) = true := by rw [ek]; rfl
  clear ek hk
  clear h hi hn hob hxB
  go_enter Tryd.func36, Tryd.ntmps36
  go_upto_region 1 with fail
  obtain ⟨w1, hw1⟩ : ∃ w1, (w.alloc (.cells (opC o).toArray 31)).alloc (.cells (rzC (rzR 0)).toArray 36) = w1 := ⟨_, rfl⟩
  have HD : Hid (DB w ρ L T q o H X (rzR 0) w1) := by rw [← hw1]; exact HD0
  rw [show (w.alloc (.cells (opC o).toArray 31)).alloc (.cells #[.int .u8 0, .int .u64 0, .int .u64 0, .int .u64 0, .int .u64 0, .int .u64 0, .int .i64 0, .int .i64 0] 36) = w1 from hw1]
  clear hw1 HD0
  have c0 : w1.cell? ⟨q, 0, none⟩ = some (.int .u8 (o.ac : Int)) := HD.out.bq.cell 0
  have c1 : w1.cell? ⟨q, 1, none⟩ = some (.int .u8 (o.k : Int)) := HD.out.bq.cell 1
  have HOa : Hid (∀ wz : World, DB w ρ L T q o H X (rzR 0) wz → Calls Tryd.prog 55 #[.pointer (some ⟨xB, 0, none⟩), .int .u64 (o.a : Int)] wz fun e w' => e = .returned (.int .u64 ((opX X o.a : Nat) : Int)) ∧ DB w ρ L T q o H X (rzR 0) w') := hid (fun wz hz => by
    have := hz.pure (f := 55) (args := fun x => #[.pointer (some ⟨x, 0, none⟩), .int .u64 (o.a : Int)]) (e0 := .returned (.int .u64 ((opX X o.a : Nat) : Int))) (fun ρ' L' T' hM => operand_walk hM HX.out o.a Hob.out.a)
    rw [HxB.out] at this
    exact this)
  have HNb : Hid (∀ wz : World, Calls Tryd.prog 52 #[.int .u64 (o.b : Int)] wz fun e w' => e = .returned (.int .i64 (numX o.b)) ∧ w' = wz) := hid (fun wz => number_walk o.b wz)
  have HC : Hid (∀ wz : World, DB w ρ L T q o H X (rzR 0) wz → Calls Tryd.prog 57 #[.pointer (some ⟨xB, 0, none⟩), .int .i64 (o.ac : Int), .int .u64 ((opX X o.a : Nat) : Int), .int .i64 (numX o.b)] wz fun e w' => ∃ H' X', (e = .returned (.tuple #[.int .u64 (((rdD H X o.ac (opX X o.a) (numX o.b)).1 : Nat) : Int), .int .u8 (((rdD H X o.ac (opX X o.a) (numX o.b)).2 : Nat) : Int)]) ∧ H' = H ∧ X' = X) ∧ DB w ρ L T q o H' X' (rzR 0) w') := hid (fun wz hz => by
    have := hz.run (f := 57) (args := fun x => #[.pointer (some ⟨x, 0, none⟩), .int .i64 (o.ac : Int), .int .u64 ((opX X o.a : Nat) : Int), .int .i64 (numX o.b)]) (R := fun e H' X' => e = .returned (.tuple #[.int .u64 (((rdD H X o.ac (opX X o.a) (numX o.b)).1 : Nat) : Int), .int .u8 (((rdD H X o.ac (opX X o.a) (numX o.b)).2 : Nat) : Int)]) ∧ H' = H ∧ X' = X) (fun ρ' L' T' hM => (readData_walk hM hac HX.out Hi.out.live (opX X o.a) (Hn.out.op Hob.out.a) (numX o.b)).mono (fun e w' ⟨k1, k2⟩ => ⟨_, _, ⟨k1, rfl, rfl⟩, k2⟩))
    rw [HxB.out] at this
    exact this)
  have HDs : Hid (DoS H X o H X (rzA (rdD H X o.ac (opX X o.a) (numX o.b)).1 (rdD H X o.ac (opX X o.a) (numX o.b)).2)) := hid (.rd hac hk9.out)
  generalize numX o.b = nb at HNb HC HDs
  generalize opX X o.a = ov at HOa HC HDs
  go_upto_region 14 with fail
  refine wp_region_hlh (fun wz => Blk wz q 31 (opC o)) 13 [0, 1, 2, 3, 4, 6, 7] [5, 8, 9] [10, 11] [12] rfl (by kernel_rfl) (by kernel_rfl) (fun d _ _ _ _ h => by cases d <;> exact h) (HD.out.below (Drew.below ⟨1, rfl⟩ _)).bq ?_
  apply Exists.intro
  refine ⟨?_, ?_⟩
  · intro W hW
    have dm : True := trivial
    have d2 : ∀ x, (W x).cell? ⟨q, 2, none⟩ = some (.int .u64 (o.a : Int)) := fun x => (hW x).cell 2
    have d3 : ∀ x, (W x).cell? ⟨q, 3, none⟩ = some (.int .u64 (o.b : Int)) := fun x => (hW x).cell 3
    clear hW
    simp only [List.take, opsAt, List.drop, List.cons_append, List.nil_append]
    repeat (go_big_quiet_step (fail))
    exact rfl
  simp only [List.take, List.drop, opsAt, List.cons_append, List.nil_append, wpHvK]
  have HD1 : Hid (DB w ρ L T q o H X (rzR 0) w1.drew) := hid (HD.out.below (Drew.below ⟨1, rfl⟩ _))
  generalize w1.drew = w1d at HD1 ⊢
  clear HD c0 c1
  go_wp2_with fail
  refine (HOa.out _ HD1.out).mono ?_
  rintro e wy ⟨rfl, hDy⟩
  have HD2 := hid hDy
  clear hDy HD1
  go_wp2_with fail
  refine ⟨HD2.out.bq, ?_⟩
  go_wp2_with fail
  refine (HNb.out _).mono ?_
  rintro e wy ⟨rfl, rfl⟩
  go_wp2_with fail
  refine ⟨HD2.out.bq, ?_⟩
  go_wp2_with fail
  refine (HC.out _ HD2.out).mono ?_
  rintro e w3 ⟨H3, X3, ⟨rfl, rfl, rfl⟩, hD3⟩
  have HD3 := hid hD3
  clear hD3 HC HD2 HNb HOa
  generalize (rdD H3 X3 o.ac ov nb).1 = rv at HDs ⊢
  generalize (rdD H3 X3 o.ac ov nb).2 = rc at HDs ⊢
  go_wp2_with fail
  refine ⟨HD3.out.bq, ?_⟩
  apply Exists.intro
  refine ⟨?_, ?_⟩
  · intro W hW
    clear hW
    repeat (go_big_quiet_step (fail))
    exact rfl
  simp only [wpHv]
  go_wp2_with fail
  refine (answer_walk rv rc _).mono ?_
  rintro e w4 ⟨rfl, hb4⟩
  have HD4 := hid (HD3.out.below hb4)
  clear HD3 hb4
  go_wp2_with fail
  refine ⟨HD4.out.bq, ?_⟩
  simp only [QN]
  go_wp2_with (refine wpList_store_blk rfl 36 _ _ rfl (q + 1) rfl (rzC (rzA rv rc)) rfl HD4.out.bp rfl I0.out (rz_one _) ?_; intro w9 HB9 HU9)
  exact bodyPost_ret (results_blk Tryd.results36 rfl (show AggOf Tryd.prog 36 (rzC (rzA rv rc)).length from AggOf.struct Tryd.underlying36 info_rz) HB9.out) rfl
    ⟨_, _, _, rfl, HDs.out, (HD4.out.store HB9.out HU9.out).out⟩
end
end Go.Proofs.Qxb6500889aDoor
