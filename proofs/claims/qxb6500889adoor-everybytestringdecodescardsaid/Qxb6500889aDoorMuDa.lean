/- do (written by tools/mk_do.py). -/
import Derived.Test.Qxb6500889aDoorMuD3
namespace Go.Proofs.Qxb6500889aDoor
open Go.RowKit
set_option linter.unusedSimpArgs false
set_option linter.unusedVariables false
section
variable {w w' w'' : World} {ρ ρ' ρ'' : Rl} {L L' : HL} {T : XL} {H H' : HS} {X X' : XS} {q : Nat} {o : OpP} {z : Rz} {wz : World}
set_option maxRecDepth 1000000 in
set_option maxHeartbeats 4000000 in
theorem do_bad (h : MM w ρ L T H X) (hi : HI H X) {n : Nat} (hn : XN X n) (hn2 : n < 100000000000) (o : OpP) (hob : OpB o) (hac : 7 ≤ o.ac) :
    Calls Tryd.prog 36 #[.pointer (some ⟨T.xB, 0, none⟩), .agg (opC o).toArray] w fun e w' => DoP w ρ L T H X o e w' := by
  have HD0 := hid (DB.start h o)
  obtain ⟨q, hq⟩ : ∃ q, w.heap.size = q := ⟨_, rfl⟩
  rw [hq] at HD0
  have Hi := hid hi
  have Hn := hid hn
  have HX : Hid (XB X) := hid (hn.xb (by omega))
  have Hob := hid hob
  have I0 : Hid ((Tryd.prog.info? 36).map (·.size) = some 8) := hid info_rz
  obtain ⟨xB, hxB⟩ : ∃ b, T.xB = b := ⟨_, rfl⟩
  have HxB := hid hxB
  rw [hxB]
  have b0 : (o.ac : Int) < 256 := by have := hob.ac; omega
  have b2 : (o.a : Int) < 18446744073709551616 := by have := hob.a; omega
  have b3 : (o.b : Int) < 18446744073709551616 := by have := hob.b; omega
  have b4 : (o.c : Int) < 18446744073709551616 := by have := hob.c; omega
  have d0 : decide ((o.ac : Int) ≥ 4) = true := decide_eq_true (by omega)
  have d1 : decide ((4 : Int) ≤ (o.ac : Int)) = true := decide_eq_true (by omega)
  clear h hi hn hob hxB
  go_enter Tryd.func36, Tryd.ntmps36
  go_upto_region 1 with fail
  obtain ⟨w1, hw1⟩ : ∃ w1, (w.alloc (.cells (opC o).toArray 31)).alloc (.cells (rzC (rzR 0)).toArray 36) = w1 := ⟨_, rfl⟩
  have HD : Hid (DB w ρ L T q o H X (rzR 0) w1) := by rw [← hw1]; exact HD0
  rw [show (w.alloc (.cells (opC o).toArray 31)).alloc (.cells #[.int .u8 0, .int .u64 0, .int .u64 0, .int .u64 0, .int .u64 0, .int .u64 0, .int .i64 0, .int .i64 0] 36) = w1 from hw1]
  clear hw1 HD0
  have c0 : w1.cell? ⟨q, 0, none⟩ = some (.int .u8 (o.ac : Int)) := HD.out.bq.cell 0
  have c1 : w1.cell? ⟨q, 1, none⟩ = some (.int .u8 (o.k : Int)) := HD.out.bq.cell 1
  go_wp2_with fail
  refine (collect_bad xB o.ac hac (by have := Hob.out.ac; omega) _).mono ?_
  rintro e w2 ⟨rfl, rfl⟩
  go_wp2_with fail
  refine (refuse_walk 1 _).mono ?_
  rintro e w3 ⟨rfl, hb3⟩
  have HD3 := hid (HD.out.below hb3)
  clear HD hb3 c0 c1
  go_wp2_with (refine wpList_store_blk rfl 36 _ _ rfl (q + 1) rfl (rzC (rzR 1)) rfl HD3.out.bp rfl I0.out (rz_one _) ?_; intro w9 HB9 HU9)
  exact bodyPost_ret (results_blk Tryd.results36 rfl (show AggOf Tryd.prog 36 (rzC (rzR 1)).length from AggOf.struct Tryd.underlying36 info_rz) HB9.out) rfl
    ⟨_, _, _, rfl, .bad hac, (HD3.out.store HB9.out HU9.out).out⟩
set_option maxRecDepth 1000000 in
set_option maxHeartbeats 4000000 in
theorem do_coll (h : MM w ρ L T H X) (hi : HI H X) {n : Nat} (hn : XN X n) (hn2 : n < 100000000000) (o : OpP) (hob : OpB o) (hac : 4 ≤ o.ac) (hac2 : o.ac < 7) :
    Calls Tryd.prog 36 #[.pointer (some ⟨T.xB, 0, none⟩), .agg (opC o).toArray] w fun e w' => DoP w ρ L T H X o e w' := by
  have HD0 := hid (DB.start h o)
  obtain ⟨q, hq⟩ : ∃ q, w.heap.size = q := ⟨_, rfl⟩
  rw [hq] at HD0
  have Hi := hid hi
  have Hn := hid hn
  have HX : Hid (XB X) := hid (hn.xb (by omega))
  have Hob := hid hob
  have I0 : Hid ((Tryd.prog.info? 36).map (·.size) = some 8) := hid info_rz
  obtain ⟨xB, hxB⟩ : ∃ b, T.xB = b := ⟨_, rfl⟩
  have HxB := hid hxB
  rw [hxB]
  have b0 : (o.ac : Int) < 256 := by have := hob.ac; omega
  have b2 : (o.a : Int) < 18446744073709551616 := by have := hob.a; omega
  have b3 : (o.b : Int) < 18446744073709551616 := by have := hob.b; omega
  have b4 : (o.c : Int) < 18446744073709551616 := by have := hob.c; omega
  have d0 : decide ((o.ac : Int) ≥ 4) = true := decide_eq_true (by omega)
  have d1 : decide ((4 : Int) ≤ (o.ac : Int)) = true := decide_eq_true (by omega)
  clear h hi hn hob hxB
  go_enter Tryd.func36, Tryd.ntmps36
  go_upto_region 1 with fail
  obtain ⟨w1, hw1⟩ : ∃ w1, (w.alloc (.cells (opC o).toArray 31)).alloc (.cells (rzC (rzR 0)).toArray 36) = w1 := ⟨_, rfl⟩
  have HD : Hid (DB w ρ L T q o H X (rzR 0) w1) := by rw [← hw1]; exact HD0
  rw [show (w.alloc (.cells (opC o).toArray 31)).alloc (.cells #[.int .u8 0, .int .u64 0, .int .u64 0, .int .u64 0, .int .u64 0, .int .u64 0, .int .i64 0, .int .i64 0] 36) = w1 from hw1]
  clear hw1 HD0
  have c0 : w1.cell? ⟨q, 0, none⟩ = some (.int .u8 (o.ac : Int)) := HD.out.bq.cell 0
  have c1 : w1.cell? ⟨q, 1, none⟩ = some (.int .u8 (o.k : Int)) := HD.out.bq.cell 1
  have HC : Hid (Calls Tryd.prog 50 #[.pointer (some ⟨xB, 0, none⟩), .int .i64 (o.ac : Int)] w1 fun e w' => ∃ H' X', (e = .returned (.int .u8 0) ∧ X' = X ∧ StepR H o.ac H') ∧ DB w ρ L T q o H' X' (rzR 0) w') := hid (by
    have := HD.out.run (f := 50) (args := fun x => #[.pointer (some ⟨x, 0, none⟩), .int .i64 (o.ac : Int)]) (R := fun e H' X' => e = .returned (.int .u8 0) ∧ X' = X ∧ StepR H o.ac H') (fun ρ' L' T' hM => (collect_walk hM Hi.out.wf (actor := o.ac) (by omega)).mono (fun e w' ⟨k1, H', k2, k3⟩ => ⟨H', X, ⟨k1, rfl, k2⟩, k3⟩))
    rw [HxB.out] at this
    exact this)
  go_wp2_with fail
  refine HC.out.mono ?_
  rintro e w2 ⟨H2, X2, ⟨rfl, rfl, hs2⟩, hD2⟩
  have HD2 := hid hD2
  have HS2 := hid hs2
  clear hD2 hs2 HC HD c0 c1
  go_wp2_with fail
  refine (refuse_walk 0 _).mono ?_
  rintro e w3 ⟨rfl, hb3⟩
  have HD3 := hid (HD2.out.below hb3)
  clear HD2 hb3
  go_wp2_with (refine wpList_store_blk rfl 36 _ _ rfl (q + 1) rfl (rzC (rzR 0)) rfl HD3.out.bp rfl I0.out (rz_one _) ?_; intro w9 HB9 HU9)
  exact bodyPost_ret (results_blk Tryd.results36 rfl (show AggOf Tryd.prog 36 (rzC (rzR 0)).length from AggOf.struct Tryd.underlying36 info_rz) HB9.out) rfl
    ⟨_, _, _, rfl, .coll _ hac hac2 HS2.out, (HD3.out.store HB9.out HU9.out).out⟩
set_option maxRecDepth 1000000 in
set_option maxHeartbeats 4000000 in
theorem do_kb (h : MM w ρ L T H X) (hi : HI H X) {n : Nat} (hn : XN X n) (hn2 : n < 100000000000) (o : OpP) (hob : OpB o) (hac : o.ac < 4) (hk : 9 ≤ o.k) :
    Calls Tryd.prog 36 #[.pointer (some ⟨T.xB, 0, none⟩), .agg (opC o).toArray] w fun e w' => DoP w ρ L T H X o e w' := by
  have HD0 := hid (DB.start h o)
  obtain ⟨q, hq⟩ : ∃ q, w.heap.size = q := ⟨_, rfl⟩
  rw [hq] at HD0
  have Hi := hid hi
  have Hn := hid hn
  have HX : Hid (XB X) := hid (hn.xb (by omega))
  have Hob := hid hob
  have I0 : Hid ((Tryd.prog.info? 36).map (·.size) = some 8) := hid info_rz
  obtain ⟨xB, hxB⟩ : ∃ b, T.xB = b := ⟨_, rfl⟩
  have HxB := hid hxB
  rw [hxB]
  have b0 : (o.ac : Int) < 256 := by have := hob.ac; omega
  have b2 : (o.a : Int) < 18446744073709551616 := by have := hob.a; omega
  have b3 : (o.b : Int) < 18446744073709551616 := by have := hob.b; omega
  have b4 : (o.c : Int) < 18446744073709551616 := by have := hob.c; omega
  have d0 : decide ((o.ac : Int) ≥ 4) = false := decide_eq_false (by omega)
  have d1 : decide ((4 : Int) ≤ (o.ac : Int)) = false := decide_eq_false (by omega)
  have e0 : ((o.k : Int) == 0) = false := by simp; omega
  have e1 : ((o.k : Int) == 1) = false := by simp; omega
  have e2 : ((o.k : Int) == 2) = false := by simp; omega
  have e3 : ((o.k : Int) == 3) = false := by simp; omega
  have e4 : ((o.k : Int) == 4) = false := by simp; omega
  have e5 : ((o.k : Int) == 5) = false := by simp; omega
  have e6 : ((o.k : Int) == 6) = false := by simp; omega
  have e7 : ((o.k : Int) == 7) = false := by simp; omega
  have e8 : ((o.k : Int) == 8) = false := by simp; omega
  clear h hi hn hob hxB
  go_enter Tryd.func36, Tryd.ntmps36
  go_upto_region 1 with fail
  obtain ⟨w1, hw1⟩ : ∃ w1, (w.alloc (.cells (opC o).toArray 31)).alloc (.cells (rzC (rzR 0)).toArray 36) = w1 := ⟨_, rfl⟩
  have HD : Hid (DB w ρ L T q o H X (rzR 0) w1) := by rw [← hw1]; exact HD0
  rw [show (w.alloc (.cells (opC o).toArray 31)).alloc (.cells #[.int .u8 0, .int .u64 0, .int .u64 0, .int .u64 0, .int .u64 0, .int .u64 0, .int .i64 0, .int .i64 0] 36) = w1 from hw1]
  clear hw1 HD0
  have c0 : w1.cell? ⟨q, 0, none⟩ = some (.int .u8 (o.ac : Int)) := HD.out.bq.cell 0
  have c1 : w1.cell? ⟨q, 1, none⟩ = some (.int .u8 (o.k : Int)) := HD.out.bq.cell 1
  go_wp2_with fail
  refine (refuse_walk 2 _).mono ?_
  rintro e w3 ⟨rfl, hb3⟩
  have HD3 := hid (HD.out.below hb3)
  clear HD hb3 c0 c1
  go_wp2_with (refine wpList_store_blk rfl 36 _ _ rfl (q + 1) rfl (rzC (rzR 2)) rfl HD3.out.bp rfl I0.out (rz_one _) ?_; intro w9 HB9 HU9)
  exact bodyPost_ret (results_blk Tryd.results36 rfl (show AggOf Tryd.prog 36 (rzC (rzR 2)).length from AggOf.struct Tryd.underlying36 info_rz) HB9.out) rfl
    ⟨_, _, _, rfl, .kb hac hk, (HD3.out.store HB9.out HU9.out).out⟩
set_option maxRecDepth 1000000 in
set_option maxHeartbeats 4000000 in
theorem do_7 (h : MM w ρ L T H X) (hi : HI H X) {n : Nat} (hn : XN X n) (hn2 : n < 100000000000) (o : OpP) (hob : OpB o) (hac : o.ac < 4) (hk : o.k = 7) :
    Calls Tryd.prog 36 #[.pointer (some ⟨T.xB, 0, none⟩), .agg (opC o).toArray] w fun e w' => DoP w ρ L T H X o e w' := by
  have HD0 := hid (DB.start h o)
  obtain ⟨q, hq⟩ : ∃ q, w.heap.size = q := ⟨_, rfl⟩
  rw [hq] at HD0
  have Hi := hid hi
  have Hn := hid hn
  have HX : Hid (XB X) := hid (hn.xb (by omega))
  have Hob := hid hob
  have I0 : Hid ((Tryd.prog.info? 36).map (·.size) = some 8) := hid info_rz
  obtain ⟨xB, hxB⟩ : ∃ b, T.xB = b := ⟨_, rfl⟩
  have HxB := hid hxB
  rw [hxB]
  have b0 : (o.ac : Int) < 256 := by have := hob.ac; omega
  have b2 : (o.a : Int) < 18446744073709551616 := by have := hob.a; omega
  have b3 : (o.b : Int) < 18446744073709551616 := by have := hob.b; omega
  have b4 : (o.c : Int) < 18446744073709551616 := by have := hob.c; omega
  have d0 : decide ((o.ac : Int) ≥ 4) = false := decide_eq_false (by omega)
  have d1 : decide ((4 : Int) ≤ (o.ac : Int)) = false := decide_eq_false (by omega)
  have hk9 := hid hk
  have ek : (o.k : Int) = 7 := by omega
  have e0 : ((o.k : Int) == 0) = false := by rw [ek]; rfl
  have e1 : ((o.k : Int) == 1) = false := by rw [ek]; rfl
  have e2 : ((o.k : Int) == 2) = false := by rw [ek]; rfl
  have e3 : ((o.k : Int) == 3) = false := by rw [ek]; rfl
  have e4 : ((o.k : Int) == 4) = false := by rw [ek]; rfl
  have e5 : ((o.k : Int) == 5) = false := by rw [ek]; rfl
  have e6 : ((o.k : Int) == 6) = false := by rw [ek]; rfl
  have e7 : ((o.k : Int) == 7) = true := by rw [ek]; rfl
  clear ek hk
  clear h hi hn hob hxB
  go_enter Tryd.func36, Tryd.ntmps36
  go_upto_region 1 with fail
  obtain ⟨w1, hw1⟩ : ∃ w1, (w.alloc (.cells (opC o).toArray 31)).alloc (.cells (rzC (rzR 0)).toArray 36) = w1 := ⟨_, rfl⟩
  have HD : Hid (DB w ρ L T q o H X (rzR 0) w1) := by rw [← hw1]; exact HD0
  rw [show (w.alloc (.cells (opC o).toArray 31)).alloc (.cells #[.int .u8 0, .int .u64 0, .int .u64 0, .int .u64 0, .int .u64 0, .int .u64 0, .int .i64 0, .int .i64 0] 36) = w1 from hw1]
  clear hw1 HD0
  have c0 : w1.cell? ⟨q, 0, none⟩ = some (.int .u8 (o.ac : Int)) := HD.out.bq.cell 0
  have c1 : w1.cell? ⟨q, 1, none⟩ = some (.int .u8 (o.k : Int)) := HD.out.bq.cell 1
  have HC : Hid (Calls Tryd.prog 61 #[.pointer (some ⟨xB, 0, none⟩), .int .i64 (o.ac : Int)] w1 fun e w' => ∃ H' X', (e = .returned (.int .u8 0) ∧ H' = safeH H o.ac ∧ X' = spX X o.ac) ∧ DB w ρ L T q o H' X' (rzR 0) w') := hid (by
    have := HD.out.run (f := 61) (args := fun x => #[.pointer (some ⟨x, 0, none⟩), .int .i64 (o.ac : Int)]) (R := fun e H' X' => e = .returned (.int .u8 0) ∧ H' = safeH H o.ac ∧ X' = spX X o.ac) (fun ρ' L' T' hM => (msafe_walk hM hac HX.out Hi.out.wf Hi.out.rl (Hi.out.closed _)).mono (fun e w' ⟨k1, k2⟩ => ⟨_, _, ⟨k1, rfl, rfl⟩, k2⟩))
    rw [HxB.out] at this
    exact this)
  go_wp2_with fail
  refine HC.out.mono ?_
  rintro e w2 ⟨H2, X2, ⟨rfl, rfl, rfl⟩, hD2⟩
  have HD2 := hid hD2
  clear hD2 HC HD c0 c1
  go_wp2_with fail
  refine (refuse_walk 0 _).mono ?_
  rintro e w3 ⟨rfl, hb3⟩
  have HD3 := hid (HD2.out.below hb3)
  clear HD2 hb3
  go_wp2_with (refine wpList_store_blk rfl 36 _ _ rfl (q + 1) rfl (rzC (rzR 0)) rfl HD3.out.bp rfl I0.out (rz_one _) ?_; intro w9 HB9 HU9)
  exact bodyPost_ret (results_blk Tryd.results36 rfl (show AggOf Tryd.prog 36 (rzC (rzR 0)).length from AggOf.struct Tryd.underlying36 info_rz) HB9.out) rfl
    ⟨_, _, _, rfl, .sf hac hk9.out, (HD3.out.store HB9.out HU9.out).out⟩
end
end Go.Proofs.Qxb6500889aDoor
