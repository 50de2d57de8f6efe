/- The model: step (written by tools/mk_mst.py). -/
import Derived.Test.Qxb6500889aDoorMuN7
namespace Go.Proofs.Qxb6500889aDoor
open Go.RowKit
set_option linter.unusedSimpArgs false
set_option linter.unusedVariables false
section
variable {w w' w'' wz : World} {σ σ' σ'' : Rl} {N N' : ML} {M M' : MS} {n m : Nat} {xs : List XBk}
set_option maxRecDepth 1000000 in
set_option maxHeartbeats 8000000 in
theorem mst_4 (h : MN w σ N M) (hb : MBd M n) (hn : n < 100000000000) (hids : MIds M) (o : OpP) (hob : OpB o) (room : Bool) (hac : o.ac < 4) (hk : o.k = 4) (hop : mOp M o.a ≠ 0) {id : Nat} (hlk : mLook M o.ac (mOp M o.a) = some id) :
    Calls Tryd.prog 23 #[.pointer (some ⟨N.mB, 0, none⟩), .agg (opC o).toArray, .bool room] w fun e w' => MsP w σ N M o room e w' := by
  have HD0 := hid (EM.two h o)
  obtain ⟨q, hq⟩ : ∃ q, w.heap.size = q := ⟨_, rfl⟩
  rw [hq] at HD0
  have HBd := hid hb
  have Hids := hid hids
  have I0 : Hid ((Tryd.prog.info? 36).map (·.size) = some 8) := hid info_rz
  have Hob := hid hob
  obtain ⟨mB, hmB⟩ : ∃ b, N.mB = b := ⟨_, rfl⟩
  have HmB := hid hmB
  rw [hmB]
  have b0 : (o.ac : Int) < 256 := by have := hob.ac; omega
  have b2 : (o.a : Int) < 18446744073709551616 := by have := hob.a; omega
  have b3 : (o.b : Int) < 18446744073709551616 := by have := hob.b; omega
  have b4 : (o.c : Int) < 18446744073709551616 := by have := hob.c; omega
  have g7 : decide ((o.ac : Int) ≥ 7) = false := decide_eq_false (by omega)
  have g7' : decide ((7 : Int) ≤ (o.ac : Int)) = false := decide_eq_false (by omega)
  have g4 : decide ((o.ac : Int) ≥ 4) = false := decide_eq_false (by omega)
  have g4' : decide ((4 : Int) ≤ (o.ac : Int)) = false := decide_eq_false (by omega)
  have e0 : ((o.k : Int) == 0) = false := by rw [hk]; rfl
  have e1 : ((o.k : Int) == 1) = false := by rw [hk]; rfl
  have e2 : ((o.k : Int) == 2) = false := by rw [hk]; rfl
  have e3 : ((o.k : Int) == 3) = false := by rw [hk]; rfl
  have e4 : ((o.k : Int) == 4) = true := by rw [hk]; rfl
  have e5 : ((o.k : Int) == 5) = false := by rw [hk]; rfl
  have e6 : ((o.k : Int) == 6) = false := by rw [hk]; rfl
  have e7 : ((o.k : Int) == 7) = false := by rw [hk]; rfl
  have e8 : ((o.k : Int) == 8) = false := by rw [hk]; rfl
  have g9 : decide ((o.k : Int) ≥ 9) = false := decide_eq_false (by omega)
  have g9' : decide ((9 : Int) ≤ (o.k : Int)) = false := decide_eq_false (by omega)
  obtain ⟨qo, hid1, hqo⟩ := hids o.ac hac id (mLook_mem hlk)
  have HEo : Hid (mDo M o room = mObj M o.ac o id qo) := hid (by unfold mDo; rw [if_neg (by omega), if_neg (by omega), if_neg (by omega), if_neg (by omega), if_neg (by omega), if_neg (by omega), if_neg (by omega), if_neg hop, hlk]; dsimp only; rw [hqo])
  obtain ⟨ov, hov⟩ : ∃ x, mOp M o.a = x := ⟨_, rfl⟩
  have dop : ((ov : Int) == 0) = false := by rw [← hov]; simp; omega
  obtain ⟨i, hi⟩ : ∃ i, id - 1 = i := ⟨_, rfl⟩
  rw [hi] at hqo
  have hii : (id : Int) - 1 = (i : Int) := by omega
  have Hqo := hid hqo
  have Hii := hid hi
  obtain ⟨no, hno⟩ : ∃ x, M.objs.length = x := ⟨_, rfl⟩
  have ilt : (i : Int) < (no : Int) := by have := (List.getElem?_eq_some_iff.1 hqo).1; omega
  have ilt0 : i < no := by omega
  have nb : (no : Int) ≤ 100000000000 := by have := hb.ob; omega
  have Hno := hid hno
  have Hov := hid hov
  have Hlk := hid hlk
  have Hk := hid hk
  have im : (o.ac : Int) < 4 := by omega
  have idb : (id : Int) ≤ 100000000000 := by omega
  have id1 : (1 : Int) ≤ (id : Int) := by omega
  clear hop hov hlk hk hqo hi hid1 hno
  clear h hb hids hob hmB
  go_enter Tryd.func23, Tryd.ntmps23
  go_upto_region 1 with fail
  obtain ⟨w1, hw1⟩ : ∃ w1, (w.alloc (.cells (opC o).toArray 31)).alloc (.cells (rzC (rzR 0)).toArray 36) = w1 := ⟨_, rfl⟩
  have HD : Hid (EM w σ N M [(q + 1, 36, rzC (rzR 0)), (q, 31, opC o)] w1) := by rw [← hw1]; exact HD0
  rw [show (w.alloc (.cells (opC o).toArray 31)).alloc (.cells #[.int .u8 0, .int .u64 0, .int .u64 0, .int .u64 0, .int .u64 0, .int .u64 0, .int .i64 0, .int .i64 0] 36) = w1 from hw1]
  clear hw1 HD0
  have c0 : w1.cell? ⟨q, 0, none⟩ = some (.int .u8 (o.ac : Int)) := (HD.out.bl (q, 31, opC o) (by simp)).1.cell 0
  have c1 : w1.cell? ⟨q, 1, none⟩ = some (.int .u8 (o.k : Int)) := (HD.out.bl (q, 31, opC o) (by simp)).1.cell 1
  have c2 : w1.cell? ⟨q, 2, none⟩ = some (.int .u64 (o.a : Int)) := (HD.out.bl (q, 31, opC o) (by simp)).1.cell 2
  have c3 : w1.cell? ⟨q, 3, none⟩ = some (.int .u64 (o.b : Int)) := (HD.out.bl (q, 31, opC o) (by simp)).1.cell 3
  have HOa : Hid (∀ wz, EM w σ N M [(q + 1, 36, rzC (rzR 0)), (q, 31, opC o)] wz → Calls Tryd.prog 42 #[.pointer (some ⟨mB, 0, none⟩), .int .u64 (o.a : Int)] wz fun e w' => e = .returned (.int .u64 ((mOp M o.a : Nat) : Int)) ∧ EM w σ N M [(q + 1, 36, rzC (rzR 0)), (q, 31, opC o)] w') := hid (fun wz hz => by
    have := hz.pure (f := 42) (args := fun x => #[.pointer (some ⟨x, 0, none⟩), .int .u64 (o.a : Int)]) (e0 := .returned (.int .u64 ((mOp M o.a : Nat) : Int))) (fun σ' N' hM => moperand_walk hM HBd.out (by omega) o.a Hob.out.a)
    rw [HmB.out] at this
    exact this)
  have HLk : Hid (∀ wz v, EM w σ N M [(q + 1, 36, rzC (rzR 0)), (q, 31, opC o)] wz → Calls Tryd.prog 43 #[.pointer (some ⟨mB, 0, none⟩), .int .i64 (o.ac : Int), .int .u64 ((v : Nat) : Int)] wz fun e w' => e = .returned (lkM (mLook M o.ac v)) ∧ w' = wz) := hid (fun wz v hz => by
    obtain ⟨σ', N', h1, h2, h3, h4⟩ := hz.ex
    have := mlookup_walk h1 HBd.out (by omega) hac v
    rw [h2, HmB.out] at this
    exact this)
  rw [Hov.out] at HOa
  have HL1 := hid (fun wz hz => HLk.out wz ov hz)
  rw [Hov.out] at Hlk
  rw [Hlk.out] at HL1
  go_wp2_with fail
  refine (HOa.out _ HD.out).mono ?_
  rintro e w2 ⟨rfl, hD2⟩
  have HD2 := hid hD2
  have c2' : w2.cell? ⟨q, 2, none⟩ = some (.int .u64 (o.a : Int)) := (hD2.bl (q, 31, opC o) (by simp)).1.cell 2
  clear hD2 HD
  go_wp2_with fail
  refine (HOa.out _ HD2.out).mono ?_
  rintro e w4 ⟨rfl, hD4⟩
  have HD4 := hid hD4
  clear hD4 HD2
  go_wp2_with fail
  refine (HL1.out _ HD4.out).mono ?_
  rintro e w5 ⟨rfl, rfl⟩
  simp only [lkM, Option.getD_some, Option.isSome_some]
  clear HL1 HOa c0 c1 c2 c3 c2'
  obtain ⟨gO, kO, rB, dB, hAt, hsz, hk1, hk2, hset, hgi⟩ := HD4.out.oat HmB.out Hqo.out
  rw [Hno.out] at hAt hk2
  have HAt := hid hAt
  have HSet := hid hset
  have kOb : (kO : Int) ≤ 9223372036854775807 := by unfold maxLen at hk1; omega
  have kO2 : (no : Int) ≤ (kO : Int) := by omega
  have cO := (hAt w5 (Below.refl _ _)).c
  have HOp : Hid (∀ wy, Below w5.heap.size w5 wy → wy.cell? ⟨q, 1, none⟩ = some (.int .u8 (o.k : Int)) ∧ wy.cell? ⟨q, 3, none⟩ = some (.int .u64 (o.b : Int)) ∧ wy.cell? ⟨q, 4, none⟩ = some (.int .u64 (o.c : Int))) := hid (fun wy hy => by
    have hB := ((HD4.out.below hy).bl (q, 31, opC o) (by simp)).1
    exact ⟨hB.cell 1, hB.cell 3, hB.cell 4⟩)
  have c1 := (HOp.out w5 (Below.refl _ _)).1
  have HGi := hid hgi
  clear hAt hset hk1 hk2 hgi
  obtain ⟨ln, hln⟩ : ∃ x, qo.data.length = x := ⟨_, rfl⟩
  have ln9 : (ln : Int) ≤ 8192 := by omega
  have Hln := hid hln
  clear hln hsz
  go_upto_region 43 with fail
  refine wp_region_heavy (fun wy => Below w5.heap.size w5 wy) 9 [0, 1, 2, 3, 4, 5, 6, 7, 8] [] rfl (by kernel_rfl) (by kernel_rfl) (fun d _ _ _ _ h => by cases d <;> exact h) (Drew.below ⟨1, rfl⟩ _) ?_
  apply Exists.intro
  refine ⟨?_, ?_⟩
  · intro W hW
    have q0 : ∀ x, (W x).cell? ⟨gO, i * 2 + 1, none⟩ = some (.slice (some ⟨dB, 0, none⟩) ln ln) := fun x => by rw [← Hln.out]; exact (HAt.out _ (hW x)).d
    have q1 : ∀ x, (W x).cell? ⟨q, 3, none⟩ = some (.int .u64 (o.b : Int)) := fun x => (HOp.out _ (hW x)).2.1
    clear hW
    simp only [List.take, opsAt, List.drop, List.cons_append, List.nil_append]
    repeat (go_big_quiet_step (fail))
    exact rfl
  simp only [List.take, List.drop, opsAt, List.cons_append, List.nil_append, wpHv, QN]
  have HBw : Hid (Below w5.heap.size w5 w5.drew) := hid (Drew.below ⟨1, rfl⟩ _)
  generalize w5.drew = wd at HBw ⊢
  by_cases hbl : ln ≤ o.b
  · as_aux_lemma =>
    have g1 : decide (ln ≤ o.b) = true := decide_eq_true hbl
    rw [g1]
    have HEm : Hid (mDo M o room = (M, rzR 5)) := hid (by rw [HEo.out]; unfold mObj; rw [if_neg (by rw [Hk.out]; decide), if_neg (by rw [Hk.out]; decide), if_pos Hk.out, Hln.out, if_pos hbl])
    have HDd := hid (HD4.out.below HBw.out)
    clear HBw HAt HSet HOp g1 hbl HEo
    go_wp2_with fail
    refine (mrefuse_walk 5 _).mono ?_
    rintro e w3 ⟨rfl, hb3⟩
    have HD3 := hid (HDd.out.below hb3)
    clear HDd hb3
    go_wp2_with (refine wpList_store_blk rfl 36 _ _ rfl (q + 1) rfl (rzC (rzR 5)) rfl (HD3.out.bl (q + 1, 36, rzC (rzR 0)) (by simp)).1 rfl I0.out (rz_one _) ?_; intro w9 HB9 HU9)
    have HM9 := (HD3.out.set (i := 0) rfl HB9.out HU9.out).out
    exact bodyPost_ret (results_blk Tryd.results23 rfl (show AggOf Tryd.prog 36 (rzC (rzR 5)).length from AggOf.struct Tryd.underlying36 info_rz) HB9.out) rfl
      (by unfold MsP; rw [HEm.out]; exact ⟨rfl, HM9⟩)
  have g1 : decide (ln ≤ o.b) = false := decide_eq_false hbl
  rw [g1]
  clear g1
  have g3 : (o.b : Int) < (ln : Int) := by omega
  have HEm : Hid (mDo M o room = ({ M with objs := M.objs.set i { qo with data := qo.data.set o.b o.c } }, rzR 0)) := hid (by rw [HEo.out]; unfold mObj; rw [if_neg (by rw [Hk.out]; decide), if_neg (by rw [Hk.out]; decide), if_pos Hk.out, Hln.out, if_neg hbl]; unfold mSetD; rw [Hii.out, Hqo.out])
  clear hbl
  go_upto_region 45 with fail
  refine wp_region_heavy (fun wy => Below w5.heap.size w5 wy) 8 [0, 1, 2, 3, 4, 5, 6, 7] [] rfl (by kernel_rfl) (by kernel_rfl) (fun d _ _ _ _ h => by cases d <;> exact h) (HBw.out.trans (Drew.below ⟨1, rfl⟩ _)) ?_
  apply Exists.intro
  refine ⟨?_, ?_⟩
  · intro W hW
    have q0 : ∀ x, (W x).cell? ⟨gO, i * 2 + 1, none⟩ = some (.slice (some ⟨dB, 0, none⟩) ln ln) := fun x => by rw [← Hln.out]; exact (HAt.out _ (hW x)).d
    have q1 : ∀ x, (W x).cell? ⟨q, 3, none⟩ = some (.int .u64 (o.b : Int)) := fun x => (HOp.out _ (hW x)).2.1
    have q2 : ∀ x, (W x).cell? ⟨q, 4, none⟩ = some (.int .u64 (o.c : Int)) := fun x => (HOp.out _ (hW x)).2.2
    clear hW
    simp only [List.take, opsAt, List.drop, List.cons_append, List.nil_append]
    repeat (go_big_quiet_step (fail))
    exact rfl
  simp only [List.take, List.drop, opsAt, List.cons_append, List.nil_append, wpHv, QN]
  have HBz : Hid (Below w5.heap.size w5 wd.drew) := hid (HBw.out.trans (Drew.below ⟨1, rfl⟩ _))
  generalize wd.drew = wdz at HBz ⊢
  clear HBw
  have HDs : Hid (EM w σ N { M with objs := M.objs.set i { qo with data := qo.data.set o.b o.c } } [(q + 1, 36, rzC (rzR 0)), (q, 31, opC o)] (wdz.setCell ⟨dB, o.b, none⟩ (.int .u64 (o.c : Int)))) := hid (HSet.out o.b o.c wdz HBz.out).1
  have cX := (HAt.out wdz HBz.out).db.cell o.b
  have fX := (HAt.out wdz HBz.out).db.frozen o.b
  have cX2 : ∃ v, wdz.cell? ⟨dB, o.b, none⟩ = some v := ⟨_, cX.trans (List.getElem?_eq_getElem (by unfold aK; rw [List.length_map, Hln.out]; omega))⟩
  obtain ⟨vX, cX3⟩ := cX2
  clear HSet HAt HOp HBz HD4 cX
  go_upto_region 63 with fail
  generalize wdz.setCell ⟨dB, o.b, none⟩ (.int .u64 (o.c : Int)) = wz9 at HDs ⊢
  clear fX cX3
  as_aux_lemma =>
  go_wp2_with (refine wpList_store_blk rfl 36 _ _ rfl (q + 1) rfl (rzC (rzR 0)) rfl (HDs.out.bl (q + 1, 36, rzC (rzR 0)) (by simp)).1 rfl I0.out (rz_one _) ?_; intro w9 HB9 HU9)
  have HM9 := (HDs.out.set (i := 0) rfl HB9.out HU9.out).out
  exact bodyPost_ret (results_blk Tryd.results23 rfl (show AggOf Tryd.prog 36 (rzC (rzR 0)).length from AggOf.struct Tryd.underlying36 info_rz) HB9.out) rfl
    (by unfold MsP; rw [HEm.out]; exact ⟨rfl, HM9⟩)
end
end Go.Proofs.Qxb6500889aDoor
