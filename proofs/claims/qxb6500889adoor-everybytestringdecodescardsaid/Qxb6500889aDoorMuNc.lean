/- The model: step (written by tools/mk_mst.py). -/
import Derived.Test.Qxb6500889aDoorMuN7
namespace Go.Proofs.Qxb6500889aDoor
open Go.RowKit
set_option linter.unusedSimpArgs false
set_option linter.unusedVariables false
section
variable {w w' w'' wz : World} {σ σ' σ'' : Rl} {N N' : ML} {M M' : MS} {n m : Nat} {xs : List XBk}
set_option maxRecDepth 1000000 in
set_option maxHeartbeats 8000000 in
theorem mst_6 (h : MN w σ N M) (hb : MBd M n) (hn : n < 100000000000) (hids : MIds M) (o : OpP) (hob : OpB o) (room : Bool) (hac : o.ac < 4) (hk : o.k = 6) :
    Calls Tryd.prog 23 #[.pointer (some ⟨N.mB, 0, none⟩), .agg (opC o).toArray, .bool room] w fun e w' => MsP w σ N M o room e w' := by
  have HD0 := hid (EM.two h o)
  obtain ⟨q, hq⟩ : ∃ q, w.heap.size = q := ⟨_, rfl⟩
  rw [hq] at HD0
  have HBd := hid hb
  have Hids := hid hids
  have I0 : Hid ((Tryd.prog.info? 36).map (·.size) = some 8) := hid info_rz
  have Hob := hid hob
  obtain ⟨mB, hmB⟩ : ∃ b, N.mB = b := ⟨_, rfl⟩
  have HmB := hid hmB
  rw [hmB]
  have b0 : (o.ac : Int) < 256 := by have := hob.ac; omega
  have b2 : (o.a : Int) < 18446744073709551616 := by have := hob.a; omega
  have b3 : (o.b : Int) < 18446744073709551616 := by have := hob.b; omega
  have b4 : (o.c : Int) < 18446744073709551616 := by have := hob.c; omega
  have g7 : decide ((o.ac : Int) ≥ 7) = false := decide_eq_false (by omega)
  have g7' : decide ((7 : Int) ≤ (o.ac : Int)) = false := decide_eq_false (by omega)
  have g4 : decide ((o.ac : Int) ≥ 4) = false := decide_eq_false (by omega)
  have g4' : decide ((4 : Int) ≤ (o.ac : Int)) = false := decide_eq_false (by omega)
  have ek : (o.k : Int) = 6 := by omega
  have e0 : ((o.k : Int) == 0) = false := by rw [ek]; rfl
  have e6 : ((o.k : Int) == 6) = true := by rw [ek]; rfl
  have e7 : ((o.k : Int) == 7) = false := by rw [ek]; rfl
  have e8 : ((o.k : Int) == 8) = false := by rw [ek]; rfl
  have g9 : decide ((o.k : Int) ≥ 9) = false := decide_eq_false (by omega)
  have g9' : decide ((9 : Int) ≤ (o.k : Int)) = false := decide_eq_false (by omega)
  have hk9 := hid hk
  clear ek
  have im : (o.ac : Int) < 4 := by omega
  have HEp : Hid (mDo M o room = mPop M o.ac) := hid (by unfold mDo; rw [if_neg (by omega), if_neg (by omega), if_neg (by omega), if_pos hk])
  clear h hb hids hob hmB
  go_enter Tryd.func23, Tryd.ntmps23
  go_upto_region 1 with fail
  obtain ⟨w1, hw1⟩ : ∃ w1, (w.alloc (.cells (opC o).toArray 31)).alloc (.cells (rzC (rzR 0)).toArray 36) = w1 := ⟨_, rfl⟩
  have HD : Hid (EM w σ N M [(q + 1, 36, rzC (rzR 0)), (q, 31, opC o)] w1) := by rw [← hw1]; exact HD0
  rw [show (w.alloc (.cells (opC o).toArray 31)).alloc (.cells #[.int .u8 0, .int .u64 0, .int .u64 0, .int .u64 0, .int .u64 0, .int .u64 0, .int .i64 0, .int .i64 0] 36) = w1 from hw1]
  clear hw1 HD0
  have c0 : w1.cell? ⟨q, 0, none⟩ = some (.int .u8 (o.ac : Int)) := (HD.out.bl (q, 31, opC o) (by simp)).1.cell 0
  have c1 : w1.cell? ⟨q, 1, none⟩ = some (.int .u8 (o.k : Int)) := (HD.out.bl (q, 31, opC o) (by simp)).1.cell 1
  have c2 : w1.cell? ⟨q, 2, none⟩ = some (.int .u64 (o.a : Int)) := (HD.out.bl (q, 31, opC o) (by simp)).1.cell 2
  have c3 : w1.cell? ⟨q, 3, none⟩ = some (.int .u64 (o.b : Int)) := (HD.out.bl (q, 31, opC o) (by simp)).1.cell 3
  obtain ⟨ρa, ρk, hcr⟩ : ∃ a k, ∀ wy, Below w1.heap.size w1 wy → wy.cell? ⟨mB, 1 + o.ac, none⟩ = some (.slice a (M.roots o.ac).length k) := by
    obtain ⟨σ', N', h1, h2, h3, h4⟩ := HD.out.ex
    obtain ⟨a, k, e⟩ := (h1.pt.rt o.ac hac).shape
    refine ⟨a, k, fun wy hy => ?_⟩
    have := ((h1.below hy).rcell hac).1
    rw [h2, HmB.out, e] at this
    exact this
  obtain ⟨ln, hln⟩ : ∃ x, (M.roots o.ac).length = x := ⟨_, rfl⟩
  rw [hln] at hcr
  have cR := hcr w1 (Below.refl _ _)
  have HCr := hid hcr
  have Hln := hid hln
  have ln9 : ln ≤ 64 := by rw [← hln]; exact HBd.out.rt o.ac hac
  clear hcr hln
  by_cases hl0 : ln = 0
  · as_aux_lemma =>
    subst hl0
    have HEm : Hid (mDo M o room = (M, rzR 10)) := hid (by
      rw [HEp.out]
      unfold mPop
      rw [List.length_eq_zero_iff.1 Hln.out]
      rfl)
    go_wp2_with fail
    refine (mrefuse_walk 10 _).mono ?_
    rintro e w3 ⟨rfl, hb3⟩
    have HD3 := hid (HD.out.below hb3)
    clear HD hb3
    go_wp2_with (refine wpList_store_blk rfl 36 _ _ rfl (q + 1) rfl (rzC (rzR 10)) rfl (HD3.out.bl (q + 1, 36, rzC (rzR 0)) (by simp)).1 rfl I0.out (rz_one _) ?_; intro w9 HB9 HU9)
    have HM9 := (HD3.out.set (i := 0) rfl HB9.out HU9.out).out
    exact bodyPost_ret (results_blk Tryd.results23 rfl (show AggOf Tryd.prog 36 (rzC (rzR 10)).length from AggOf.struct Tryd.underlying36 info_rz) HB9.out) rfl
      (by unfold MsP; rw [HEm.out]; exact ⟨rfl, HM9⟩)
  have d0 : ((ln : Int) == 0) = false := by simp; omega
  have HFl : Hid (∀ wz, EM w σ N M [(q + 1, 36, rzC (rzR 0)), (q, 31, opC o)] wz → Calls Tryd.prog 39 #[.pointer (some ⟨mB, 0, none⟩), .int .i64 (o.ac : Int)] wz fun e w' => e = .returned (.bool (mFull M o.ac)) ∧ w' = wz) := hid (fun wz hz => by
    obtain ⟨σ', N', h1, h2, h3, h4⟩ := hz.ex
    have := mfull_walk h1 HBd.out (by omega) hac
    rw [h2, HmB.out] at this
    exact this)
  obtain ⟨ys, x, hyx⟩ : ∃ ys x, M.roots o.ac = ys ++ [x] := by
    rcases List.eq_nil_or_concat (M.roots o.ac) with e | ⟨ys, x, e⟩
    · have := Hln.out; rw [e] at this; exact absurd this.symm hl0
    · exact ⟨ys, x, by rw [e, List.concat_eq_append]⟩
  have hgl : (M.roots o.ac).getLast? = some x := by rw [hyx]; simp
  cases hfl : mFull M o.ac with
  | true =>
    as_aux_lemma =>
    rw [hfl] at HFl
    have HEm : Hid (mDo M o room = (M, rzR 11)) := hid (by
      rw [HEp.out]
      unfold mPop
      rw [hgl]
      show (if mFull M o.ac = true then _ else _) = _
      rw [if_pos hfl])
    clear hfl hgl hyx
    go_wp2_with fail
    refine (HFl.out _ HD.out).mono ?_
    rintro e w2 ⟨rfl, rfl⟩
    go_wp2_with fail
    refine (mrefuse_walk 11 _).mono ?_
    rintro e w3 ⟨rfl, hb3⟩
    have HD3 := hid (HD.out.below hb3)
    clear HD hb3
    go_wp2_with (refine wpList_store_blk rfl 36 _ _ rfl (q + 1) rfl (rzC (rzR 11)) rfl (HD3.out.bl (q + 1, 36, rzC (rzR 0)) (by simp)).1 rfl I0.out (rz_one _) ?_; intro w9 HB9 HU9)
    have HM9 := (HD3.out.set (i := 0) rfl HB9.out HU9.out).out
    exact bodyPost_ret (results_blk Tryd.results23 rfl (show AggOf Tryd.prog 36 (rzC (rzR 11)).length from AggOf.struct Tryd.underlying36 info_rz) HB9.out) rfl
      (by unfold MsP; rw [HEm.out]; exact ⟨rfl, HM9⟩)
  | false =>
    as_aux_lemma =>
    rw [hfl] at HFl
    have hhl : (M.held o.ac).length < 128 := by
      have h1 := HBd.out.hd o.ac hac
      unfold mFull at hfl
      simp at hfl
      omega
    obtain ⟨hvv, hhv⟩ : ∃ x, hN (M.gen o.ac) o.ac (M.held o.ac).length = x := ⟨_, rfl⟩
    have HEm : Hid (mDo M o room = (mGive { M with roots := fup M.roots o.ac (M.roots o.ac).dropLast } o.ac x, rzA hvv 0)) := hid (by
      rw [HEp.out, ← hhv]
      unfold mPop
      rw [hgl]
      show (if mFull M o.ac = true then _ else _) = _
      rw [if_neg (by rw [hfl]; simp)])
    have hylen : ys.length + 1 = ln := by rw [← Hln.out, hyx]; simp
    obtain ⟨g, hg, cx⟩ : ∃ g, ρa = some ⟨g, 0, none⟩ ∧ w1.cell? ⟨g, ln - 1, none⟩ = some (.int .i64 (x : Int)) := by
      obtain ⟨σ', N', h1, h2, h3, h4⟩ := HD.out.ex
      obtain ⟨g, k', e1, e2⟩ := (h1.pt.rt o.ac hac).get (i := ln - 1) (x := x) (by rw [hyx]; rw [show ln - 1 = ys.length by omega]; simp)
      have := (h1.rcell hac).1
      rw [h2, HmB.out, cR, e1, Hln.out] at this
      injection this with this
      injection this with t1 t2 t3
      exact ⟨g, t1, e2⟩
    subst hg
    obtain ⟨l1, hl1⟩ : ∃ l, ln - 1 = l := ⟨_, rfl⟩
    rw [hl1] at cx
    have hli : (ln : Int) - 1 = (l1 : Int) := by omega
    have il1 : (l1 : Int) < (ln : Int) := by omega
    have kcap : ρk ≤ maxLen ∧ ln ≤ ρk := by
      obtain ⟨σ', N', h1, h2, h3, h4⟩ := HD.out.ex
      have hr := h1.pt.rt o.ac hac
      have := (h1.rcell hac).1
      rw [h2, HmB.out, cR] at this
      injection this with this
      rw [← this] at hr
      exact hr.cap
    have kb : (ρk : Int) ≤ 9223372036854775807 := by have := kcap.1; unfold maxLen at this; omega
    have kb2 : (l1 : Int) ≤ (ρk : Int) := by omega
    have Hhv := hid hhv
    clear hfl hgl hyx kcap hhv
    go_wp2_with fail
    refine (HFl.out _ HD.out).mono ?_
    rintro e w2 ⟨rfl, rfl⟩
    go_upto_region 16 with fail
    refine wp_region_heavy (fun wy => Below w2.heap.size w2 wy) 13 [0, 1, 2, 3, 4, 5, 6, 7, 8, 9, 10, 11, 12] [] rfl (by kernel_rfl) (by kernel_rfl) (fun d _ _ _ _ h => by cases d <;> exact h) (Drew.below ⟨1, rfl⟩ _) ?_
    apply Exists.intro
    refine ⟨?_, ?_⟩
    · intro W hW
      have q0 : ∀ x, (W x).cell? ⟨mB, 1 + o.ac, none⟩ = some (.slice (some ⟨g, 0, none⟩) ln ρk) := fun x => HCr.out _ (hW x)
      clear hW
      simp only [List.take, opsAt, List.drop, List.cons_append, List.nil_append]
      repeat (go_big_quiet_step (fail))
      exact rfl
    simp only [List.take, List.drop, opsAt, List.cons_append, List.nil_append, wpHv, QN]
    have HDd : Hid (EM w σ N M [(q + 1, 36, rzC (rzR 0)), (q, 31, opC o)] w2.drew) := hid (HD.out.below (Drew.below ⟨1, rfl⟩ _))
    have cD := HCr.out w2.drew (Drew.below ⟨1, rfl⟩ _)
    generalize w2.drew = wd at HDd cD ⊢
    obtain ⟨_, _, _, fD⟩ := HDd.out.mcell HmB.out (1 + o.ac) (by omega)
    have HDr : Hid (EM w σ N { M with roots := fup M.roots o.ac (M.roots o.ac).dropLast } [(q + 1, 36, rzC (rzR 0)), (q, 31, opC o)] (wd.setCell ⟨mB, 1 + o.ac, none⟩ (.slice (some ⟨g, 0, none⟩) l1 ρk))) := hid (HDd.out.app HmB.out (fun σ' N' hM he => by
      have hrv : N'.rv o.ac = .slice (some ⟨g, 0, none⟩) ln ρk := by
        have := (hM.rcell hac).1
        rw [he, cD] at this
        injection this with this
        exact this.symm
      have := hM.cutR hac hrv Hln.out
      rw [hl1, he] at this
      rw [← he]
      rw [← he] at this
      exact this))
    clear HD HFl cR cx HCr c0 c1 c2 c3
    go_upto_region 17 with fail
    generalize wd.setCell ⟨mB, 1 + o.ac, none⟩ (.slice (some ⟨g, 0, none⟩) l1 ρk) = w3 at HDr ⊢
    clear cD fD HDd
    have HGv : Hid (∀ wz, EM w σ N { M with roots := fup M.roots o.ac (M.roots o.ac).dropLast } [(q + 1, 36, rzC (rzR 0)), (q, 31, opC o)] wz → Calls Tryd.prog 40 #[.pointer (some ⟨mB, 0, none⟩), .int .i64 (o.ac : Int), .int .i64 (x : Int)] wz fun e w' => ∃ M', (e = .returned (.int .u64 (hvv : Int)) ∧ M' = mGive { M with roots := fup M.roots o.ac (M.roots o.ac).dropLast } o.ac x) ∧ EM w σ N M' [(q + 1, 36, rzC (rzR 0)), (q, 31, opC o)] w') := hid (fun wz hz => by
      have hb2 : MBd { M with roots := fup M.roots o.ac (M.roots o.ac).dropLast } n := by
        have hb := HBd.out
        refine ⟨hb.ob, hb.iss, hb.gen, hb.hd, fun i hi => ?_, hb.st, hb.rf, hb.sf, hb.alt, hb.ih⟩
        show (fup M.roots o.ac _ i).length ≤ 64
        by_cases e : i = o.ac
        · rw [e, fup_self, List.length_dropLast]
          have := hb.rt o.ac hac
          omega
        · rw [fup_ne _ _ e]; exact hb.rt i hi
      have := hz.call (f := 40) (args := fun y => #[.pointer (some ⟨y, 0, none⟩), .int .i64 (o.ac : Int), .int .i64 (x : Int)]) (R := fun e M' => e = .returned (.int .u64 (hvv : Int)) ∧ M' = mGive { M with roots := fup M.roots o.ac (M.roots o.ac).dropLast } o.ac x) (fun σ' N' hM => (mgive_walk hM hb2 (by omega) hac hhl x).mono (fun e w' ⟨k1, k2⟩ => ⟨_, ⟨by rw [k1, ← Hhv.out], rfl⟩, k2⟩))
      rw [HmB.out] at this
      exact this)
    go_wp2_with fail
    refine (HGv.out _ HDr.out).mono ?_
    rintro e w6 ⟨M6, ⟨rfl, hM6⟩, hE6⟩
    have HE6 := hid hE6
    rw [← hM6] at HEm
    clear hE6 HDr HGv hM6
    as_aux_lemma =>
    go_wp2_with (refine wpList_store_blk rfl 36 _ _ rfl (q + 1) rfl (rzC (rzA hvv 0)) rfl (HE6.out.bl (q + 1, 36, rzC (rzR 0)) (by simp)).1 rfl I0.out (rz_one _) ?_; intro w9 HB9 HU9)
    have HM9 := (HE6.out.set (i := 0) rfl HB9.out HU9.out).out
    exact bodyPost_ret (results_blk Tryd.results23 rfl (show AggOf Tryd.prog 36 (rzC (rzA hvv 0)).length from AggOf.struct Tryd.underlying36 info_rz) HB9.out) rfl
      (by unfold MsP; rw [HEm.out]; exact ⟨rfl, HM9⟩)
end
end Go.Proofs.Qxb6500889aDoor
