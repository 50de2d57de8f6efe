/- do (written by tools/mk_do.py). -/
import Derived.Test.Qxb6500889aDoorMuD3
namespace Go.Proofs.Qxb6500889aDoor
open Go.RowKit
set_option linter.unusedSimpArgs false
set_option linter.unusedVariables false
section
variable {w w' w'' : World} {ρ ρ' ρ'' : Rl} {L L' : HL} {T : XL} {H H' : HS} {X X' : XS} {q : Nat} {o : OpP} {z : Rz} {wz : World}
set_option maxRecDepth 1000000 in
set_option maxHeartbeats 4000000 in
theorem do_0 (h : MM w ρ L T H X) (hi : HI H X) {n : Nat} (hn : XN X n) (hn2 : n < 100000000000) (o : OpP) (hob : OpB o) (hac : o.ac < 4) (hk : o.k = 0) :
    Calls Tryd.prog 36 #[.pointer (some ⟨T.xB, 0, none⟩), .agg (opC o).toArray] w fun e w' => DoP w ρ L T H X o e w' := by
  have HD0 := hid (DB.start h o)
  obtain ⟨q, hq⟩ : ∃ q, w.heap.size = q := ⟨_, rfl⟩
  rw [hq] at HD0
  have Hi := hid hi
  have Hn := hid hn
  have HX : Hid (XB X) := hid (hn.xb (by omega))
  have Hob := hid hob
  have I0 : Hid ((Tryd.prog.info? 36).map (·.size) = some 8) := hid info_rz
  obtain ⟨xB, hxB⟩ : ∃ b, T.xB = b := ⟨_, rfl⟩
  have HxB := hid hxB
  rw [hxB]
  have b0 : (o.ac : Int) < 256 := by have := hob.ac; omega
  have b2 : (o.a : Int) < 18446744073709551616 := by have := hob.a; omega
  have b3 : (o.b : Int) < 18446744073709551616 := by have := hob.b; omega
  have b4 : (o.c : Int) < 18446744073709551616 := by have := hob.c; omega
  have d0 : decide ((o.ac : Int) ≥ 4) = false := decide_eq_false (by omega)
  have d1 : decide ((4 : Int) ≤ (o.ac : Int)) = false := decide_eq_false (by omega)
  have hk9 := hid hk
  have ek : (o.k : Int) = 0 := by omega
  have e0 : ((o.k : Int) == 0) = true := by rw [ek]; rfl
  clear ek hk
  clear h hi hn hob hxB
  go_enter Tryd.func36, Tryd.ntmps36
  go_upto_region 1 with fail
  obtain ⟨w1, hw1⟩ : ∃ w1, (w.alloc (.cells (opC o).toArray 31)).alloc (.cells (rzC (rzR 0)).toArray 36) = w1 := ⟨_, rfl⟩
  have HD : Hid (DB w ρ L T q o H X (rzR 0) w1) := by rw [← hw1]; exact HD0
  rw [show (w.alloc (.cells (opC o).toArray 31)).alloc (.cells #[.int .u8 0, .int .u64 0, .int .u64 0, .int .u64 0, .int .u64 0, .int .u64 0, .int .i64 0, .int .i64 0] 36) = w1 from hw1]
  clear hw1 HD0
  have c0 : w1.cell? ⟨q, 0, none⟩ = some (.int .u8 (o.ac : Int)) := HD.out.bq.cell 0
  have c1 : w1.cell? ⟨q, 1, none⟩ = some (.int .u8 (o.k : Int)) := HD.out.bq.cell 1
  have HNa : Hid (∀ wz : World, Calls Tryd.prog 52 #[.int .u64 (o.a : Int)] wz fun e w' => e = .returned (.int .i64 (numX o.a)) ∧ w' = wz) := hid (fun wz => number_walk o.a wz)
  have HNb : Hid (∀ wz : World, Calls Tryd.prog 52 #[.int .u64 (o.b : Int)] wz fun e w' => e = .returned (.int .i64 (numX o.b)) ∧ w' = wz) := hid (fun wz => number_walk o.b wz)
  have HC : Hid (∀ wz : World, DB w ρ L T q o H X (rzR 0) wz → Calls Tryd.prog 51 #[.pointer (some ⟨xB, 0, none⟩), .int .i64 (o.ac : Int), .int .i64 (numX o.a), .int .i64 (numX o.b)] wz fun e w' => ∃ H' X', (e = .returned (.tuple #[.int .u64 (((alO H X o.ac (numX o.a) (numX o.b)).2.2.1 : Nat) : Int), .int .u8 (((alO H X o.ac (numX o.a) (numX o.b)).2.2.2 : Nat) : Int)]) ∧ H' = (alO H X o.ac (numX o.a) (numX o.b)).1 ∧ X' = (alO H X o.ac (numX o.a) (numX o.b)).2.1) ∧ DB w ρ L T q o H' X' (rzR 0) w') := hid (fun wz hz => by
    have := hz.run (f := 51) (args := fun x => #[.pointer (some ⟨x, 0, none⟩), .int .i64 (o.ac : Int), .int .i64 (numX o.a), .int .i64 (numX o.b)]) (R := fun e H' X' => e = .returned (.tuple #[.int .u64 (((alO H X o.ac (numX o.a) (numX o.b)).2.2.1 : Nat) : Int), .int .u8 (((alO H X o.ac (numX o.a) (numX o.b)).2.2.2 : Nat) : Int)]) ∧ H' = (alO H X o.ac (numX o.a) (numX o.b)).1 ∧ X' = (alO H X o.ac (numX o.a) (numX o.b)).2.1) (fun ρ' L' T' hM => (malloc_walk hM hac HX.out (by have := Hn.out.al; omega) Hi.out.wf (numX o.a) (numX o.b)).mono (fun e w' ⟨k1, k2⟩ => ⟨_, _, ⟨k1, rfl, rfl⟩, k2⟩))
    rw [HxB.out] at this
    exact this)
  have HDs : Hid (DoS H X o (alO H X o.ac (numX o.a) (numX o.b)).1 (alO H X o.ac (numX o.a) (numX o.b)).2.1 (rzA (alO H X o.ac (numX o.a) (numX o.b)).2.2.1 (alO H X o.ac (numX o.a) (numX o.b)).2.2.2)) := hid (.al hac hk9.out)
  generalize numX o.a = na at HNa HC HDs
  generalize numX o.b = nb at HNb HC HDs
  go_upto_region 6 with fail
  refine wp_region_hlh (fun wz => Blk wz q 31 (opC o)) 14 [0, 1, 2, 3, 5, 6] [4, 7, 8] [9, 10, 11, 12, 13] [] rfl (by kernel_rfl) (by kernel_rfl) (fun d _ _ _ _ h => by cases d <;> exact h) (HD.out.below (Drew.below ⟨1, rfl⟩ _)).bq ?_
  apply Exists.intro
  refine ⟨?_, ?_⟩
  · intro W hW
    have dm : True := trivial
    have d2 : ∀ x, (W x).cell? ⟨q, 2, none⟩ = some (.int .u64 (o.a : Int)) := fun x => (hW x).cell 2
    have d3 : ∀ x, (W x).cell? ⟨q, 3, none⟩ = some (.int .u64 (o.b : Int)) := fun x => (hW x).cell 3
    clear hW
    simp only [List.take, opsAt, List.drop, List.cons_append, List.nil_append]
    repeat (go_big_quiet_step (fail))
    exact rfl
  simp only [List.take, List.drop, opsAt, List.cons_append, List.nil_append, wpHvK]
  have HD1 : Hid (DB w ρ L T q o H X (rzR 0) w1.drew) := hid (HD.out.below (Drew.below ⟨1, rfl⟩ _))
  generalize w1.drew = w1d at HD1 ⊢
  clear HD c0 c1
  go_wp2_with fail
  refine (HNa.out _).mono ?_
  rintro e wy ⟨rfl, rfl⟩
  go_wp2_with fail
  refine ⟨HD1.out.bq, ?_⟩
  go_wp2_with fail
  refine (HNb.out _).mono ?_
  rintro e wy ⟨rfl, rfl⟩
  go_wp2_with fail
  refine ⟨HD1.out.bq, ?_⟩
  go_wp2_with fail
  refine (HC.out _ HD1.out).mono ?_
  rintro e w2 ⟨H2, X2, ⟨rfl, hH2, hX2⟩, hD2⟩
  have HD2 := hid hD2
  rw [← hH2, ← hX2] at HDs
  clear hD2 HC HD1 HNa HNb hH2 hX2
  generalize (alO H X o.ac na nb).2.2.1 = rv at HDs ⊢
  generalize (alO H X o.ac na nb).2.2.2 = rc at HDs ⊢
  go_wp2_with fail
  refine ⟨HD2.out.bq, ?_⟩
  apply Exists.intro
  refine ⟨?_, ?_⟩
  · intro W hW
    clear hW
    repeat (go_big_quiet_step (fail))
    exact rfl
  simp only [wpHv]
  simp only [QN]
  as_aux_lemma =>
  go_wp2_with fail
  refine (answer_walk rv rc _).mono ?_
  rintro e w3 ⟨rfl, hb3⟩
  have HD3 := hid (HD2.out.below hb3)
  clear HD2 hb3
  go_wp2_with (refine wpList_store_blk rfl 36 _ _ rfl (q + 1) rfl (rzC (rzA rv rc)) rfl HD3.out.bp rfl I0.out (rz_one _) ?_; intro w9 HB9 HU9)
  exact bodyPost_ret (results_blk Tryd.results36 rfl (show AggOf Tryd.prog 36 (rzC (rzA rv rc)).length from AggOf.struct Tryd.underlying36 info_rz) HB9.out) rfl
    ⟨_, _, _, rfl, HDs.out, (HD3.out.store HB9.out HU9.out).out⟩
end
end Go.Proofs.Qxb6500889aDoor
