/- The model: step (written by tools/mk_mst.py). -/
import Derived.Test.Qxb6500889aDoorMuN7
namespace Go.Proofs.Qxb6500889aDoor
open Go.RowKit
set_option linter.unusedSimpArgs false
set_option linter.unusedVariables false
section
variable {w w' w'' wz : World} {σ σ' σ'' : Rl} {N N' : ML} {M M' : MS} {n m : Nat} {xs : List XBk}
set_option maxRecDepth 1000000 in
set_option maxHeartbeats 8000000 in
theorem mst_8 (h : MN w σ N M) (hb : MBd M n) (hn : n < 100000000000) (hids : MIds M) (o : OpP) (hob : OpB o) (room : Bool) (hac : o.ac < 4) (hk : o.k = 8) :
    Calls Tryd.prog 23 #[.pointer (some ⟨N.mB, 0, none⟩), .agg (opC o).toArray, .bool room] w fun e w' => MsP w σ N M o room e w' := by
  have HD0 := hid (EM.two h o)
  obtain ⟨q, hq⟩ : ∃ q, w.heap.size = q := ⟨_, rfl⟩
  rw [hq] at HD0
  have HBd := hid hb
  have Hids := hid hids
  have I0 : Hid ((Tryd.prog.info? 36).map (·.size) = some 8) := hid info_rz
  have Hob := hid hob
  obtain ⟨mB, hmB⟩ : ∃ b, N.mB = b := ⟨_, rfl⟩
  have HmB := hid hmB
  rw [hmB]
  have b0 : (o.ac : Int) < 256 := by have := hob.ac; omega
  have b2 : (o.a : Int) < 18446744073709551616 := by have := hob.a; omega
  have b3 : (o.b : Int) < 18446744073709551616 := by have := hob.b; omega
  have b4 : (o.c : Int) < 18446744073709551616 := by have := hob.c; omega
  have g7 : decide ((o.ac : Int) ≥ 7) = false := decide_eq_false (by omega)
  have g7' : decide ((7 : Int) ≤ (o.ac : Int)) = false := decide_eq_false (by omega)
  have g4 : decide ((o.ac : Int) ≥ 4) = false := decide_eq_false (by omega)
  have g4' : decide ((4 : Int) ≤ (o.ac : Int)) = false := decide_eq_false (by omega)
  have ek : (o.k : Int) = 8 := by omega
  have e0 : ((o.k : Int) == 0) = false := by rw [ek]; rfl
  have e6 : ((o.k : Int) == 6) = false := by rw [ek]; rfl
  have e7 : ((o.k : Int) == 7) = false := by rw [ek]; rfl
  have e8 : ((o.k : Int) == 8) = true := by rw [ek]; rfl
  have g9 : decide ((o.k : Int) ≥ 9) = false := decide_eq_false (by omega)
  have g9' : decide ((9 : Int) ≤ (o.k : Int)) = false := decide_eq_false (by omega)
  have hk9 := hid hk
  clear ek
  have HEm : Hid (mDo M o room = (M, mStat M)) := hid (by unfold mDo; rw [if_neg (by omega), if_neg (by omega), if_neg (by omega), if_neg (by omega), if_neg (by omega), if_pos hk])
  clear h hb hids hob hmB
  go_enter Tryd.func23, Tryd.ntmps23
  go_upto_region 1 with fail
  obtain ⟨w1, hw1⟩ : ∃ w1, (w.alloc (.cells (opC o).toArray 31)).alloc (.cells (rzC (rzR 0)).toArray 36) = w1 := ⟨_, rfl⟩
  have HD : Hid (EM w σ N M [(q + 1, 36, rzC (rzR 0)), (q, 31, opC o)] w1) := by rw [← hw1]; exact HD0
  rw [show (w.alloc (.cells (opC o).toArray 31)).alloc (.cells #[.int .u8 0, .int .u64 0, .int .u64 0, .int .u64 0, .int .u64 0, .int .u64 0, .int .i64 0, .int .i64 0] 36) = w1 from hw1]
  clear hw1 HD0
  have c0 : w1.cell? ⟨q, 0, none⟩ = some (.int .u8 (o.ac : Int)) := (HD.out.bl (q, 31, opC o) (by simp)).1.cell 0
  have c1 : w1.cell? ⟨q, 1, none⟩ = some (.int .u8 (o.k : Int)) := (HD.out.bl (q, 31, opC o) (by simp)).1.cell 1
  have c2 : w1.cell? ⟨q, 2, none⟩ = some (.int .u64 (o.a : Int)) := (HD.out.bl (q, 31, opC o) (by simp)).1.cell 2
  have c3 : w1.cell? ⟨q, 3, none⟩ = some (.int .u64 (o.b : Int)) := (HD.out.bl (q, 31, opC o) (by simp)).1.cell 3
  have HC : Hid (Calls Tryd.prog 41 #[.pointer (some ⟨mB, 0, none⟩)] w1 fun e w' => e = .returned (.agg (stC (mStat M)).toArray) ∧ EM w σ N M [(q + 1, 36, rzC (rzR 0)), (q, 31, opC o)] w') := hid (by
    have := HD.out.pure (f := 41) (args := fun x => #[.pointer (some ⟨x, 0, none⟩)]) (e0 := .returned (.agg (stC (mStat M)).toArray)) (fun σ' N' hM => mstats_walk hM HBd.out (by omega))
    rw [HmB.out] at this
    exact this)
  go_wp2_with fail
  refine HC.out.mono ?_
  rintro e w2 ⟨rfl, hD2⟩
  have HD2 := hid hD2
  have Hz : Hid ((mStat M).c = 0 ∧ (mStat M).v = 0) := hid ⟨rfl, rfl⟩
  generalize mStat M = z at HEm Hz ⊢
  clear hD2 HC HD c0 c1 c2 c3
  as_aux_lemma =>
  dsimp only
  rename_i K0 a0
  refine a0 _ _ ?_
  refine wpList_build_st rfl _ rfl z Hz.out.1 Hz.out.2 rfl ?_
  refine wpList_store_blk rfl 36 _ _ rfl (q + 1) rfl (rzC z) rfl (HD2.out.bl (q + 1, 36, rzC (rzR 0)) (by simp)).1 rfl I0.out (rz_one _) ?_
  intro w9 HB9 HU9
  go_wp2_with fail
  have HM9 := (HD2.out.set (i := 0) rfl HB9.out HU9.out).out
  exact bodyPost_ret (results_blk Tryd.results23 rfl (show AggOf Tryd.prog 36 (rzC (z)).length from AggOf.struct Tryd.underlying36 info_rz) HB9.out) rfl
    (by unfold MsP; rw [HEm.out]; exact ⟨rfl, HM9⟩)
set_option maxRecDepth 1000000 in
set_option maxHeartbeats 8000000 in
theorem mst_7 (h : MN w σ N M) (hb : MBd M n) (hn : n < 100000000000) (hids : MIds M) (o : OpP) (hob : OpB o) (room : Bool) (hac : o.ac < 4) (hk : o.k = 7) :
    Calls Tryd.prog 23 #[.pointer (some ⟨N.mB, 0, none⟩), .agg (opC o).toArray, .bool room] w fun e w' => MsP w σ N M o room e w' := by
  have HD0 := hid (EM.two h o)
  obtain ⟨q, hq⟩ : ∃ q, w.heap.size = q := ⟨_, rfl⟩
  rw [hq] at HD0
  have HBd := hid hb
  have Hids := hid hids
  have I0 : Hid ((Tryd.prog.info? 36).map (·.size) = some 8) := hid info_rz
  have Hob := hid hob
  obtain ⟨mB, hmB⟩ : ∃ b, N.mB = b := ⟨_, rfl⟩
  have HmB := hid hmB
  rw [hmB]
  have b0 : (o.ac : Int) < 256 := by have := hob.ac; omega
  have b2 : (o.a : Int) < 18446744073709551616 := by have := hob.a; omega
  have b3 : (o.b : Int) < 18446744073709551616 := by have := hob.b; omega
  have b4 : (o.c : Int) < 18446744073709551616 := by have := hob.c; omega
  have g7 : decide ((o.ac : Int) ≥ 7) = false := decide_eq_false (by omega)
  have g7' : decide ((7 : Int) ≤ (o.ac : Int)) = false := decide_eq_false (by omega)
  have g4 : decide ((o.ac : Int) ≥ 4) = false := decide_eq_false (by omega)
  have g4' : decide ((4 : Int) ≤ (o.ac : Int)) = false := decide_eq_false (by omega)
  have ek : (o.k : Int) = 7 := by omega
  have e0 : ((o.k : Int) == 0) = false := by rw [ek]; rfl
  have e6 : ((o.k : Int) == 6) = false := by rw [ek]; rfl
  have e7 : ((o.k : Int) == 7) = true := by rw [ek]; rfl
  have e8 : ((o.k : Int) == 8) = false := by rw [ek]; rfl
  have g9 : decide ((o.k : Int) ≥ 9) = false := decide_eq_false (by omega)
  have g9' : decide ((9 : Int) ≤ (o.k : Int)) = false := decide_eq_false (by omega)
  have hk9 := hid hk
  clear ek
  have im : (o.ac : Int) < 4 := by omega
  have HEm : Hid (mDo M o room = (mSafe M o.ac, rzR 0)) := hid (by unfold mDo; rw [if_neg (by omega), if_neg (by omega), if_neg (by omega), if_neg (by omega), if_pos hk])
  clear h hb hids hob hmB
  go_enter Tryd.func23, Tryd.ntmps23
  go_upto_region 1 with fail
  obtain ⟨w1, hw1⟩ : ∃ w1, (w.alloc (.cells (opC o).toArray 31)).alloc (.cells (rzC (rzR 0)).toArray 36) = w1 := ⟨_, rfl⟩
  have HD : Hid (EM w σ N M [(q + 1, 36, rzC (rzR 0)), (q, 31, opC o)] w1) := by rw [← hw1]; exact HD0
  rw [show (w.alloc (.cells (opC o).toArray 31)).alloc (.cells #[.int .u8 0, .int .u64 0, .int .u64 0, .int .u64 0, .int .u64 0, .int .u64 0, .int .i64 0, .int .i64 0] 36) = w1 from hw1]
  clear hw1 HD0
  have c0 : w1.cell? ⟨q, 0, none⟩ = some (.int .u8 (o.ac : Int)) := (HD.out.bl (q, 31, opC o) (by simp)).1.cell 0
  have c1 : w1.cell? ⟨q, 1, none⟩ = some (.int .u8 (o.k : Int)) := (HD.out.bl (q, 31, opC o) (by simp)).1.cell 1
  have c2 : w1.cell? ⟨q, 2, none⟩ = some (.int .u64 (o.a : Int)) := (HD.out.bl (q, 31, opC o) (by simp)).1.cell 2
  have c3 : w1.cell? ⟨q, 3, none⟩ = some (.int .u64 (o.b : Int)) := (HD.out.bl (q, 31, opC o) (by simp)).1.cell 3
  obtain ⟨hA, kA, cH⟩ : ∃ a k, w1.cell? ⟨mB, 5 + o.ac, none⟩ = some (.slice a (M.held o.ac).length k) := by
    obtain ⟨σ', N', h1, h2, h3, h4⟩ := HD.out.ex
    obtain ⟨a, k, e⟩ := (h1.pt.hd o.ac hac).shape
    have := (h1.rcell hac).2.1
    rw [h2, HmB.out, e] at this
    exact ⟨a, k, this⟩
  obtain ⟨_, _, _, fH⟩ := HD.out.mcell HmB.out (5 + o.ac) (by omega)
  have HDa : Hid (EM w σ N { M with held := fup M.held o.ac [] } [(q + 1, 36, rzC (rzR 0)), (q, 31, opC o)] (w1.setCell ⟨mB, 5 + o.ac, none⟩ (.slice none 0 0))) := hid (HD.out.app HmB.out (fun σ' N' hM he => by rw [← he]; exact hM.nilH hac))
  go_upto_region 20 with fail
  generalize w1.setCell ⟨mB, 5 + o.ac, none⟩ (.slice none 0 0) = w2 at HDa ⊢
  clear HD c0 c1 c2 c3 cH fH
  obtain ⟨gn, hgn⟩ : ∃ x, M.gen o.ac = x := ⟨_, rfl⟩
  have Hgn := hid hgn
  have gn9 : (gn : Int) ≤ 100000000000 := by have := HBd.out.gen o.ac hac; omega
  have HCg : Hid (∀ wy, Below w2.heap.size w2 wy → wy.cell? ⟨mB, 9 + o.ac, none⟩ = some (.int .u64 (gn : Int))) := hid (fun wy hy => by
    obtain ⟨σ', N', h1, h2, h3, h4⟩ := (HDa.out.below hy).ex
    have := (h1.rcell hac).2.2
    rw [h2, HmB.out] at this
    rw [this]
    show some (Value.int .u64 (M.gen o.ac : Int)) = _
    rw [Hgn.out])
  clear hgn
  refine wp_region_heavy (fun wy => Below w2.heap.size w2 wy) 9 [0, 1, 2, 3, 4, 5, 6, 7, 8] [] rfl (by kernel_rfl) (by kernel_rfl) (fun d _ _ _ _ h => by cases d <;> exact h) (Drew.below ⟨1, rfl⟩ _) ?_
  apply Exists.intro
  refine ⟨?_, ?_⟩
  · intro W hW
    have q0 : ∀ x, (W x).cell? ⟨mB, 9 + o.ac, none⟩ = some (.int .u64 (gn : Int)) := fun x => HCg.out _ (hW x)
    clear hW
    simp only [List.take, opsAt, List.drop, List.cons_append, List.nil_append]
    repeat (go_big_quiet_step (fail))
    exact rfl
  simp only [List.take, List.drop, opsAt, List.cons_append, List.nil_append, wpHv, QN]
  have HDd : Hid (EM w σ N { M with held := fup M.held o.ac [] } [(q + 1, 36, rzC (rzR 0)), (q, 31, opC o)] w2.drew) := hid (HDa.out.below (Drew.below ⟨1, rfl⟩ _))
  have cG := HCg.out w2.drew (Drew.below ⟨1, rfl⟩ _)
  generalize w2.drew = wd at HDd cG ⊢
  obtain ⟨_, _, _, fG⟩ := HDd.out.mcell HmB.out (9 + o.ac) (by omega)
  have HDg : Hid (EM w σ N { M with held := fup M.held o.ac [], gen := fup M.gen o.ac (gn + 1) } [(q + 1, 36, rzC (rzR 0)), (q, 31, opC o)] (wd.setCell ⟨mB, 9 + o.ac, none⟩ (.int .u64 ((gn : Int) + 1)))) := hid (HDd.out.app HmB.out (fun σ' N' hM he => by rw [← he]; exact hM.setG hac (gn + 1)))
  clear HDa HCg
  go_upto_region 21 with fail
  generalize wd.setCell ⟨mB, 9 + o.ac, none⟩ (.int .u64 ((gn : Int) + 1)) = w3 at HDg ⊢
  clear HDd cG fG
  obtain ⟨sf, hsf⟩ : ∃ x, M.sf = x := ⟨_, rfl⟩
  have sf9 : (sf : Int) ≤ 100000000000 := by have := HBd.out.sf; omega
  obtain ⟨N3, _, cS, fS⟩ := HDg.out.mcell HmB.out 17 (by omega)
  have cS2 : w3.cell? ⟨mB, 17, none⟩ = some (.int .u64 (sf : Int)) := by rw [cS, ← hsf]; rfl
  have HDs : Hid (EM w σ N { M with held := fup M.held o.ac [], gen := fup M.gen o.ac (gn + 1), sf := sf + 1 } [(q + 1, 36, rzC (rzR 0)), (q, 31, opC o)] (w3.setCell ⟨mB, 17, none⟩ (.int .u64 ((sf : Int) + 1)))) := hid (HDg.out.app HmB.out (fun σ' N' hM he => by rw [← he]; exact hM.setS (sf + 1)))
  have HMe : Hid (({ M with held := fup M.held o.ac [], gen := fup M.gen o.ac (gn + 1), sf := sf + 1 } : MS) = mSafe M o.ac) := hid (by unfold mSafe; rw [Hgn.out, hsf])
  rw [← HMe.out] at HEm
  clear cS hsf HMe HDg
  go_upto_region 22 with fail
  generalize w3.setCell ⟨mB, 17, none⟩ (.int .u64 ((sf : Int) + 1)) = w4 at HDs ⊢
  clear cS2 fS
  as_aux_lemma =>
  go_wp2_with (refine wpList_store_blk rfl 36 _ _ rfl (q + 1) rfl (rzC (rzR 0)) rfl (HDs.out.bl (q + 1, 36, rzC (rzR 0)) (by simp)).1 rfl I0.out (rz_one _) ?_; intro w9 HB9 HU9)
  have HM9 := (HDs.out.set (i := 0) rfl HB9.out HU9.out).out
  exact bodyPost_ret (results_blk Tryd.results23 rfl (show AggOf Tryd.prog 36 (rzC (rzR 0)).length from AggOf.struct Tryd.underlying36 info_rz) HB9.out) rfl
    (by unfold MsP; rw [HEm.out]; exact ⟨rfl, HM9⟩)
end
end Go.Proofs.Qxb6500889aDoor
