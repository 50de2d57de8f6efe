/- do (written by tools/mk_do.py). -/
import Derived.Test.Qxb6500889aDoorMuD3
namespace Go.Proofs.Qxb6500889aDoor
open Go.RowKit
set_option linter.unusedSimpArgs false
set_option linter.unusedVariables false
section
variable {w w' w'' : World} {ρ ρ' ρ'' : Rl} {L L' : HL} {T : XL} {H H' : HS} {X X' : XS} {q : Nat} {o : OpP} {z : Rz} {wz : World}
set_option maxRecDepth 1000000 in
set_option maxHeartbeats 4000000 in
theorem do_8 (h : MM w ρ L T H X) (hi : HI H X) {n : Nat} (hn : XN X n) (hn2 : n < 100000000000) (o : OpP) (hob : OpB o) (hac : o.ac < 4) (hk : o.k = 8) :
    Calls Tryd.prog 36 #[.pointer (some ⟨T.xB, 0, none⟩), .agg (opC o).toArray] w fun e w' => DoP w ρ L T H X o e w' := by
  have HD0 := hid (DB.start h o)
  obtain ⟨q, hq⟩ : ∃ q, w.heap.size = q := ⟨_, rfl⟩
  rw [hq] at HD0
  have Hi := hid hi
  have Hn := hid hn
  have HX : Hid (XB X) := hid (hn.xb (by omega))
  have Hob := hid hob
  have I0 : Hid ((Tryd.prog.info? 36).map (·.size) = some 8) := hid info_rz
  obtain ⟨xB, hxB⟩ : ∃ b, T.xB = b := ⟨_, rfl⟩
  have HxB := hid hxB
  rw [hxB]
  have b0 : (o.ac : Int) < 256 := by have := hob.ac; omega
  have b2 : (o.a : Int) < 18446744073709551616 := by have := hob.a; omega
  have b3 : (o.b : Int) < 18446744073709551616 := by have := hob.b; omega
  have b4 : (o.c : Int) < 18446744073709551616 := by have := hob.c; omega
  have d0 : decide ((o.ac : Int) ≥ 4) = false := decide_eq_false (by omega)
  have d1 : decide ((4 : Int) ≤ (o.ac : Int)) = false := decide_eq_false (by omega)
  have hk9 := hid hk
  have ek : (o.k : Int) = 8 := by omega
  have e0 : ((o.k : Int) == 0) = false := by rw [ek]; rfl
  have e1 : ((o.k : Int) == 1) = false := by rw [ek]; rfl
  have e2 : ((o.k : Int) == 2) = false := by rw [ek]; rfl
  have e3 : ((o.k : Int) == 3) = false := by rw [ek]; rfl
  have e4 : ((o.k : Int) == 4) = false := by rw [ek]; rfl
  have e5 : ((o.k : Int) == 5) = false := by rw [ek]; rfl
  have e6 : ((o.k : Int) == 6) = false := by rw [ek]; rfl
  have e7 : ((o.k : Int) == 7) = false := by rw [ek]; rfl
  have e8 : ((o.k : Int) == 8) = true := by rw [ek]; rfl
  clear ek hk
  clear h hi hn hob hxB
  go_enter Tryd.func36, Tryd.ntmps36
  go_upto_region 1 with fail
  obtain ⟨w1, hw1⟩ : ∃ w1, (w.alloc (.cells (opC o).toArray 31)).alloc (.cells (rzC (rzR 0)).toArray 36) = w1 := ⟨_, rfl⟩
  have HD : Hid (DB w ρ L T q o H X (rzR 0) w1) := by rw [← hw1]; exact HD0
  rw [show (w.alloc (.cells (opC o).toArray 31)).alloc (.cells #[.int .u8 0, .int .u64 0, .int .u64 0, .int .u64 0, .int .u64 0, .int .u64 0, .int .i64 0, .int .i64 0] 36) = w1 from hw1]
  clear hw1 HD0
  have c0 : w1.cell? ⟨q, 0, none⟩ = some (.int .u8 (o.ac : Int)) := HD.out.bq.cell 0
  have c1 : w1.cell? ⟨q, 1, none⟩ = some (.int .u8 (o.k : Int)) := HD.out.bq.cell 1
  have HC : Hid (Calls Tryd.prog 27 #[.pointer (some ⟨xB, 0, none⟩)] w1 fun e w' => e = .returned (.agg (stC (stX H X 4)).toArray) ∧ DB w ρ L T q o H X (rzR 0) w') := hid (by
    have := HD.out.pure (f := 27) (args := fun x => #[.pointer (some ⟨x, 0, none⟩)]) (e0 := .returned (.agg (stC (stX H X 4)).toArray)) (fun ρ' L' T' hM => stats_walk hM HX.out Hi.out.rl)
    rw [HxB.out] at this
    exact this)
  go_wp2_with fail
  refine HC.out.mono ?_
  rintro e w2 ⟨rfl, hD2⟩
  have HD2 := hid hD2
  have HDs : Hid (DoS H X o H X (stX H X 4)) := hid (.st hac hk9.out)
  clear hD2 HC HD c0 c1
  unfold stX at HDs ⊢
  generalize sumT (fun m => (X.tb m).ad.length) 4 = nh at HDs ⊢
  generalize sumT (fun m => (H.roots m).length) 4 = nr at HDs ⊢
  as_aux_lemma =>
  dsimp only
  rename_i K2 a2 K1 a1 K0 a0
  refine a0 _ _ ?_
  refine wpList_build_st rfl _ rfl ⟨0, 0, X.st, X.rf, X.al, X.sf, nh, nr⟩ rfl rfl rfl ?_
  refine wpList_store_blk rfl 36 _ _ rfl (q + 1) rfl (rzC ⟨0, 0, X.st, X.rf, X.al, X.sf, nh, nr⟩) rfl HD2.out.bp rfl I0.out (rz_one _) ?_
  intro w9 HB9 HU9
  go_wp2_with fail
  exact bodyPost_ret (results_blk Tryd.results36 rfl (show AggOf Tryd.prog 36 (rzC (⟨0, 0, X.st, X.rf, X.al, X.sf, nh, nr⟩)).length from AggOf.struct Tryd.underlying36 info_rz) HB9.out) rfl
    ⟨_, _, _, rfl, HDs.out, (HD2.out.store HB9.out HU9.out).out⟩
set_option maxRecDepth 1000000 in
set_option maxHeartbeats 4000000 in
theorem do_6 (h : MM w ρ L T H X) (hi : HI H X) {n : Nat} (hn : XN X n) (hn2 : n < 100000000000) (o : OpP) (hob : OpB o) (hac : o.ac < 4) (hk : o.k = 6) :
    Calls Tryd.prog 36 #[.pointer (some ⟨T.xB, 0, none⟩), .agg (opC o).toArray] w fun e w' => DoP w ρ L T H X o e w' := by
  have HD0 := hid (DB.start h o)
  obtain ⟨q, hq⟩ : ∃ q, w.heap.size = q := ⟨_, rfl⟩
  rw [hq] at HD0
  have Hi := hid hi
  have Hn := hid hn
  have HX : Hid (XB X) := hid (hn.xb (by omega))
  have Hob := hid hob
  have I0 : Hid ((Tryd.prog.info? 36).map (·.size) = some 8) := hid info_rz
  obtain ⟨xB, hxB⟩ : ∃ b, T.xB = b := ⟨_, rfl⟩
  have HxB := hid hxB
  rw [hxB]
  have b0 : (o.ac : Int) < 256 := by have := hob.ac; omega
  have b2 : (o.a : Int) < 18446744073709551616 := by have := hob.a; omega
  have b3 : (o.b : Int) < 18446744073709551616 := by have := hob.b; omega
  have b4 : (o.c : Int) < 18446744073709551616 := by have := hob.c; omega
  have d0 : decide ((o.ac : Int) ≥ 4) = false := decide_eq_false (by omega)
  have d1 : decide ((4 : Int) ≤ (o.ac : Int)) = false := decide_eq_false (by omega)
  have hk9 := hid hk
  have ek : (o.k : Int) = 6 := by omega
  have e0 : ((o.k : Int) == 0) = false := by rw [ek]; rfl
  have e1 : ((o.k : Int) == 1) = false := by rw [ek]; rfl
  have e2 : ((o.k : Int) == 2) = false := by rw [ek]; rfl
  have e3 : ((o.k : Int) == 3) = false := by rw [ek]; rfl
  have e4 : ((o.k : Int) == 4) = false := by rw [ek]; rfl
  have e5 : ((o.k : Int) == 5) = false := by rw [ek]; rfl
  have e6 : ((o.k : Int) == 6) = true := by rw [ek]; rfl
  clear ek hk
  clear h hi hn hob hxB
  go_enter Tryd.func36, Tryd.ntmps36
  go_upto_region 1 with fail
  obtain ⟨w1, hw1⟩ : ∃ w1, (w.alloc (.cells (opC o).toArray 31)).alloc (.cells (rzC (rzR 0)).toArray 36) = w1 := ⟨_, rfl⟩
  have HD : Hid (DB w ρ L T q o H X (rzR 0) w1) := by rw [← hw1]; exact HD0
  rw [show (w.alloc (.cells (opC o).toArray 31)).alloc (.cells #[.int .u8 0, .int .u64 0, .int .u64 0, .int .u64 0, .int .u64 0, .int .u64 0, .int .i64 0, .int .i64 0] 36) = w1 from hw1]
  clear hw1 HD0
  have c0 : w1.cell? ⟨q, 0, none⟩ = some (.int .u8 (o.ac : Int)) := HD.out.bq.cell 0
  have c1 : w1.cell? ⟨q, 1, none⟩ = some (.int .u8 (o.k : Int)) := HD.out.bq.cell 1
  have HC : Hid (Calls Tryd.prog 60 #[.pointer (some ⟨xB, 0, none⟩), .int .i64 (o.ac : Int)] w1 fun e w' => ∃ H' X', (e = .returned (.tuple #[.int .u64 (((ppR H X o.ac).2.2.1 : Nat) : Int), .int .u8 (((ppR H X o.ac).2.2.2 : Nat) : Int)]) ∧ H' = (ppR H X o.ac).1 ∧ X' = (ppR H X o.ac).2.1) ∧ DB w ρ L T q o H' X' (rzR 0) w') := hid (by
    have := HD.out.run (f := 60) (args := fun x => #[.pointer (some ⟨x, 0, none⟩), .int .i64 (o.ac : Int)]) (R := fun e H' X' => e = .returned (.tuple #[.int .u64 (((ppR H X o.ac).2.2.1 : Nat) : Int), .int .u8 (((ppR H X o.ac).2.2.2 : Nat) : Int)]) ∧ H' = (ppR H X o.ac).1 ∧ X' = (ppR H X o.ac).2.1) (fun ρ' L' T' hM => (mpop_walk hM hac HX.out Hi.out.rl).mono (fun e w' ⟨k1, k2⟩ => ⟨_, _, ⟨k1, rfl, rfl⟩, k2⟩))
    rw [HxB.out] at this
    exact this)
  go_wp2_with fail
  refine HC.out.mono ?_
  rintro e w2 ⟨H2, X2, ⟨rfl, rfl, rfl⟩, hD2⟩
  have HD2 := hid hD2
  have HDs : Hid (DoS H X o (ppR H X o.ac).1 (ppR H X o.ac).2.1 (rzA (ppR H X o.ac).2.2.1 (ppR H X o.ac).2.2.2)) := hid (.po hac hk9.out)
  clear hD2 HC HD c0 c1
  generalize (ppR H X o.ac).2.2.1 = rv at HDs ⊢
  generalize (ppR H X o.ac).2.2.2 = rc at HDs ⊢
  go_wp2_with fail
  refine (answer_walk rv rc _).mono ?_
  rintro e w3 ⟨rfl, hb3⟩
  have HD3 := hid (HD2.out.below hb3)
  clear HD2 hb3
  go_wp2_with (refine wpList_store_blk rfl 36 _ _ rfl (q + 1) rfl (rzC (rzA rv rc)) rfl HD3.out.bp rfl I0.out (rz_one _) ?_; intro w9 HB9 HU9)
  exact bodyPost_ret (results_blk Tryd.results36 rfl (show AggOf Tryd.prog 36 (rzC (rzA rv rc)).length from AggOf.struct Tryd.underlying36 info_rz) HB9.out) rfl
    ⟨_, _, _, rfl, HDs.out, (HD3.out.store HB9.out HU9.out).out⟩
set_option maxRecDepth 1000000 in
set_option maxHeartbeats 4000000 in
theorem do_5 (h : MM w ρ L T H X) (hi : HI H X) {n : Nat} (hn : XN X n) (hn2 : n < 100000000000) (o : OpP) (hob : OpB o) (hac : o.ac < 4) (hk : o.k = 5) :
    Calls Tryd.prog 36 #[.pointer (some ⟨T.xB, 0, none⟩), .agg (opC o).toArray] w fun e w' => DoP w ρ L T H X o e w' := by
  have HD0 := hid (DB.start h o)
  obtain ⟨q, hq⟩ : ∃ q, w.heap.size = q := ⟨_, rfl⟩
  rw [hq] at HD0
  have Hi := hid hi
  have Hn := hid hn
  have HX : Hid (XB X) := hid (hn.xb (by omega))
  have Hob := hid hob
  have I0 : Hid ((Tryd.prog.info? 36).map (·.size) = some 8) := hid info_rz
  obtain ⟨xB, hxB⟩ : ∃ b, T.xB = b := ⟨_, rfl⟩
  have HxB := hid hxB
  rw [hxB]
  have b0 : (o.ac : Int) < 256 := by have := hob.ac; omega
  have b2 : (o.a : Int) < 18446744073709551616 := by have := hob.a; omega
  have b3 : (o.b : Int) < 18446744073709551616 := by have := hob.b; omega
  have b4 : (o.c : Int) < 18446744073709551616 := by have := hob.c; omega
  have d0 : decide ((o.ac : Int) ≥ 4) = false := decide_eq_false (by omega)
  have d1 : decide ((4 : Int) ≤ (o.ac : Int)) = false := decide_eq_false (by omega)
  have hk9 := hid hk
  have ek : (o.k : Int) = 5 := by omega
  have e0 : ((o.k : Int) == 0) = false := by rw [ek]; rfl
  have e1 : ((o.k : Int) == 1) = false := by rw [ek]; rfl
  have e2 : ((o.k : Int) == 2) = false := by rw [ek]; rfl
  have e3 : ((o.k : Int) == 3) = false := by rw [ek]; rfl
  have e4 : ((o.k : Int) == 4) = false := by rw [ek]; rfl
  have e5 : ((o.k : Int) == 5) = true := by rw [ek]; rfl
  clear ek hk
  clear h hi hn hob hxB
  go_enter Tryd.func36, Tryd.ntmps36
  go_upto_region 1 with fail
  obtain ⟨w1, hw1⟩ : ∃ w1, (w.alloc (.cells (opC o).toArray 31)).alloc (.cells (rzC (rzR 0)).toArray 36) = w1 := ⟨_, rfl⟩
  have HD : Hid (DB w ρ L T q o H X (rzR 0) w1) := by rw [← hw1]; exact HD0
  rw [show (w.alloc (.cells (opC o).toArray 31)).alloc (.cells #[.int .u8 0, .int .u64 0, .int .u64 0, .int .u64 0, .int .u64 0, .int .u64 0, .int .i64 0, .int .i64 0] 36) = w1 from hw1]
  clear hw1 HD0
  have c0 : w1.cell? ⟨q, 0, none⟩ = some (.int .u8 (o.ac : Int)) := HD.out.bq.cell 0
  have c1 : w1.cell? ⟨q, 1, none⟩ = some (.int .u8 (o.k : Int)) := HD.out.bq.cell 1
  have HOa : Hid (∀ wz : World, DB w ρ L T q o H X (rzR 0) wz → Calls Tryd.prog 55 #[.pointer (some ⟨xB, 0, none⟩), .int .u64 (o.a : Int)] wz fun e w' => e = .returned (.int .u64 ((opX X o.a : Nat) : Int)) ∧ DB w ρ L T q o H X (rzR 0) w') := hid (fun wz hz => by
    have := hz.pure (f := 55) (args := fun x => #[.pointer (some ⟨x, 0, none⟩), .int .u64 (o.a : Int)]) (e0 := .returned (.int .u64 ((opX X o.a : Nat) : Int))) (fun ρ' L' T' hM => operand_walk hM HX.out o.a Hob.out.a)
    rw [HxB.out] at this
    exact this)
  have HC : Hid (∀ wz : World, DB w ρ L T q o H X (rzR 0) wz → Calls Tryd.prog 59 #[.pointer (some ⟨xB, 0, none⟩), .int .i64 (o.ac : Int), .int .u64 ((opX X o.a : Nat) : Int)] wz fun e w' => ∃ H' X', (e = .returned (.int .u8 ((psR H X o.ac (opX X o.a)).2 : Int)) ∧ H' = (psR H X o.ac (opX X o.a)).1 ∧ X' = X) ∧ DB w ρ L T q o H' X' (rzR 0) w') := hid (fun wz hz => by
    have := hz.run (f := 59) (args := fun x => #[.pointer (some ⟨x, 0, none⟩), .int .i64 (o.ac : Int), .int .u64 ((opX X o.a : Nat) : Int)]) (R := fun e H' X' => e = .returned (.int .u8 ((psR H X o.ac (opX X o.a)).2 : Int)) ∧ H' = (psR H X o.ac (opX X o.a)).1 ∧ X' = X) (fun ρ' L' T' hM => (mpush_walk hM hac HX.out Hi.out.rl (opX X o.a) (Hn.out.op Hob.out.a)).mono (fun e w' ⟨k1, k2⟩ => ⟨_, _, ⟨k1, rfl, rfl⟩, k2⟩))
    rw [HxB.out] at this
    exact this)
  have c2 : w1.cell? ⟨q, 2, none⟩ = some (.int .u64 (o.a : Int)) := HD.out.bq.cell 2
  go_wp2_with fail
  refine (HOa.out _ HD.out).mono ?_
  rintro e w2 ⟨rfl, hD2⟩
  have HD2 := hid hD2
  have HDs : Hid (DoS H X o (psR H X o.ac (opX X o.a)).1 X (rzR (psR H X o.ac (opX X o.a)).2)) := hid (.pu hac hk9.out)
  clear hD2 HD c0 c1 c2 HOa
  generalize opX X o.a = ov at HC HDs ⊢
  go_wp2_with fail
  refine (HC.out _ HD2.out).mono ?_
  rintro e w3 ⟨H3, X3, ⟨rfl, rfl, rfl⟩, hD3⟩
  have HD3 := hid hD3
  clear hD3 HC HD2
  generalize (psR H X3 o.ac ov).2 = rc at HDs ⊢
  go_wp2_with fail
  refine (refuse_walk rc _).mono ?_
  rintro e w4 ⟨rfl, hb4⟩
  have HD4 := hid (HD3.out.below hb4)
  clear HD3 hb4
  go_wp2_with (refine wpList_store_blk rfl 36 _ _ rfl (q + 1) rfl (rzC (rzR rc)) rfl HD4.out.bp rfl I0.out (rz_one _) ?_; intro w9 HB9 HU9)
  exact bodyPost_ret (results_blk Tryd.results36 rfl (show AggOf Tryd.prog 36 (rzC (rzR rc)).length from AggOf.struct Tryd.underlying36 info_rz) HB9.out) rfl
    ⟨_, _, _, rfl, HDs.out, (HD4.out.store HB9.out HU9.out).out⟩
end
end Go.Proofs.Qxb6500889aDoor
